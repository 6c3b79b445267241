/- A world that holds all the tables of the rows. -/
import Derived.Test.YtjcmbnpabkhcfaaGreatDoorLiveW
import Derived.Test.YtjcmbnpabkhcfaaGreatDoorCards
import Derived.Test.YtjcmbnpabkhcfaaGreatDoorTie
import Derived.ProofKit
import Derived.OpenShut
import Derived.Deep.DeepHandedRow
import Derived.Lib.LaidIn
namespace Go.Proofs.YtjcmbnpabkhcfaaGreatDoor
open Go.ChangeShapes Go.WideShapes Go.ChangeAt Go.RowKit
set_option linter.unusedVariables false
set_option linter.unusedSimpArgs false
theorem own : ownKnob Tryz.prog.godebug = none := by kernel_rfl
def elemsOf : DataW Unit → List (DataW Unit)
  | .slice l _ => l
  | _ => []
def strOf : DataW Unit → ByteArray
  | .iface _ (.ptr (.agg [.lit (.string bs)])) => ⟨bs.toArray⟩
  | _ => ⟨#[]⟩
noncomputable def laidWorld (os : Os) : World :=
  let N := (World.settled Tryz.prog os).heap.size
  let w0 := World.holding Tryz.prog os ⟨#[.cells (flatVs (elemsOf Rows.laid_internal_strconv_powtab)).toArray 3, .cells (flatVs (elemsOf Rows.laid_internal_strconv_float64pow10)).toArray 25,
    .cells (flatVs (elemsOf Rows.laid_internal_strconv_float32pow10)).toArray 70, .cells (flatVs (elemsOf Rows.laid_internal_strconv_leftcheats)).toArray 167,
    .cells #[.string (strOf Rows.laid_strconv_ErrRange)] 132, .cells #[.string (strOf Rows.laid_strconv_ErrSyntax)] 132], #[], []⟩
  let put (h : Array Obj) (g : Nat) (cs : Array Value) : Array Obj := h.modify g fun
    | .cells _ t frozen => .cells cs t frozen
    | o => o
  let sl (i : Nat) (d : DataW Unit) : Array Value := #[.slice (some ⟨N + i, 0, none⟩) (elemsOf d).length (elemsOf d).length]
  let h := put w0.heap 1 #[.iface 130 (.pointer (some ⟨N + 5, 0, none⟩))]
  let h := put h 2 #[.iface 130 (.pointer (some ⟨N + 4, 0, none⟩))]
  let h := put h 3 (flatV Rows.laid_internal_strconv_optimize).toArray
  let h := put h 5 (flatV Rows.laid_internal_strconv_float32info).toArray
  let h := put h 6 (flatV Rows.laid_internal_strconv_float64info).toArray
  let h := put h 7 (flatV Rows.laid_internal_strconv_uint64pow10).toArray
  let h := put h 8 (sl 2 Rows.laid_internal_strconv_float32pow10)
  let h := put h 9 (sl 0 Rows.laid_internal_strconv_powtab)
  let h := put h 10 (sl 1 Rows.laid_internal_strconv_float64pow10)
  let h := put h 11 (flatV Rows.laid_internal_strconv_pow10Tab).toArray
  let h := put h 12 (sl 3 Rows.laid_internal_strconv_leftcheats)
  let h := put h 13 (flatV Rows.laid_math_bits_deBruijn32tab).toArray
  let h := put h 14 (flatV Rows.laid_math_bits_deBruijn64tab).toArray
  { w0 with heap := h }
/-- A datum of a type that bears no pointer. -/
def okD (P : Program) : Nat → TypeId → DataW Unit → Bool
  | 0, _, _ => false
  | f + 1, t, d => match P.underlying t, d with
    | some (.int k), .lit (.int k' n) => decide (k' = k) && (Lit.int k n).wf && decide (P.cellsOf t = 1)
    | some (.struct fs), .agg ds => decide (runT P (fun (x : Field) => x.offset) (fun x => x.type) 0 fs.toList = some (P.cellsOf t)) && decide ((flatVs ds).length = P.cellsOf t) && decide (fs.toList.length = ds.length) && (fs.toList.zip ds).all fun x => okD P f x.1.type x.2
    | some (.array n e), .agg ds => decide (runT P (fun i => i * P.cellsOf e) (fun _ => e) 0 (List.range n) = some (P.cellsOf t)) && decide ((flatVs ds).length = P.cellsOf t) && decide (n = ds.length) && ds.all fun d => okD P f e d
    | _, _ => false
theorem read_list {α : Type} {P : Program} {off : α → Nat} {ty : α → TypeId} {cs : List Value} {F : α → Option (DataW Unit × List MemPlace)} : ∀ {l : List α} {ds : List (DataW Unit)} {o m : Nat},
    l.length = ds.length → (∀ a d, (a, d) ∈ l.zip ds → (flatV d).length = P.cellsOf (ty a) ∧ ((cs.drop (off a)).take (P.cellsOf (ty a)) = flatV d → F a = some (d, []))) →
    runT P off ty o l = some m → (cs.drop o).take (flatVs ds).length = flatVs ds → l.mapM F = some (ds.map fun d => (d, []))
  | [], [], _, _, _, _, _, _ => rfl
  | [], _ :: _, _, _, hl, _, _, _ => by cases hl
  | _ :: _, [], _, _, hl, _, _, _ => by cases hl
  | a :: l, d :: ds, o, m, hl, hF, hr, hc => by
    unfold runT at hr
    split at hr
    · rename_i ho
      have ho := of_decide_eq_true ho
      obtain ⟨h1, h2⟩ := hF a d (by simp)
      simp only [flatVs, List.length_append] at hc
      rw [List.take_add, List.drop_drop] at hc
      have hlen : ((cs.drop o).take (flatV d).length).length = (flatV d).length := by
        have := congrArg List.length hc
        simp only [List.length_append, List.length_take, List.length_drop] at this
        simp only [List.length_take, List.length_drop]
        omega
      obtain ⟨e1, e2⟩ := List.append_inj hc hlen
      have h3 := h2 (by rw [ho, ← h1]; exact e1)
      have h4 := read_list (F := F) (cs := cs) (l := l) (ds := ds) (by simpa using hl) (fun a' d' h => hF a' d' (by simp [h])) hr (by rw [← h1]; exact e2)
      rw [List.mapM_cons, h3]
      simp [h4]
    · cases hr
theorem okD_len {P : Program} : ∀ (f : Nat) {t : TypeId} {d : DataW Unit}, okD P f t d = true → (flatV d).length = P.cellsOf t
  | 0, _, _, h => by cases h
  | f + 1, t, d, h => by
    unfold okD at h
    split at h
    · simp only [Bool.and_eq_true, decide_eq_true_eq] at h
      simp [flatV, h.2]
    · simp only [Bool.and_eq_true, decide_eq_true_eq] at h
      simpa [flatV] using h.1.1.2
    · simp only [Bool.and_eq_true, decide_eq_true_eq] at h
      simpa [flatV] using h.1.1.2
    · cases h
theorem okD_read {P : Program} {w : World} {base : Nat} {sp : Nat → Bool} {held : Bool} : ∀ (f : Nat) {t : TypeId} {d : DataW Unit}, okD P f t d = true → DataW.trod (fun _ => ()) P w base sp held f t (flatV d) = some (d, [])
  | 0, _, _, h => by cases h
  | f + 1, t, d, h => by
    have ih := fun {t : TypeId} {d : DataW Unit} => okD_read (P := P) (w := w) (base := base) (sp := sp) (held := held) f (t := t) (d := d)
    unfold okD at h
    split at h
    · rename_i k k' n hu
      simp only [Bool.and_eq_true, decide_eq_true_eq] at h
      obtain ⟨⟨rfl, hw⟩, _⟩ := h
      simp [flatV, litV, DataW.trod, hu, hw]
    · rename_i fs ds hu
      simp only [Bool.and_eq_true, decide_eq_true_eq, List.all_eq_true] at h
      obtain ⟨⟨⟨h1, h2⟩, h3⟩, h4⟩ := h
      have hm := read_list (P := P) (off := fun (x : Field) => x.offset) (ty := fun x => x.type) (cs := flatVs ds) (F := fun f' : Field => DataW.trod (fun _ => ()) P w base sp held f f'.type (((flatVs ds).drop f'.offset).take (P.cellsOf f'.type)))
        h3 (fun a d hd => ⟨okD_len f (h4 _ hd), fun e => by rw [e]; exact ih (h4 _ hd)⟩) h1 (by rw [List.drop_zero, List.take_length])
      simp only [flatV, DataW.trod, hu]
      rw [if_pos h2, hm]
      simp [List.map_map, Function.comp_def]
    · rename_i n e ds hu
      simp only [Bool.and_eq_true, decide_eq_true_eq, List.all_eq_true] at h
      obtain ⟨⟨⟨h1, h2⟩, h3⟩, h4⟩ := h
      have hm := read_list (P := P) (off := fun i => i * P.cellsOf e) (ty := fun _ => e) (cs := flatVs ds) (F := fun i : Nat => DataW.trod (fun _ => ()) P w base sp held f e (((flatVs ds).drop (i * P.cellsOf e)).take (P.cellsOf e)))
        (by rw [List.length_range]; exact h3) (fun a d hd => ⟨okD_len f (h4 _ (List.of_mem_zip hd).2), fun e => by rw [e]; exact ih (h4 _ (List.of_mem_zip hd).2)⟩) h1 (by rw [List.drop_zero, List.take_length])
      simp only [flatV, DataW.trod, hu]
      rw [if_pos h2, hm]
      simp [List.map_map, Function.comp_def]
    · cases h
noncomputable def laidMem (os : Os) (args : Array Value) : World := ((laidWorld os).forCall (fun _ _ => 0) ⟨#[], args, []⟩).memory
def small : List (String × DataW Unit) := laidL.take 12
def others : List Nat := [0, 1, 2, 3, 4, 5, 6, 7, 8, 9, 10] ++ (List.range 100).drop 12
set_option maxRecDepth 100000 in
theorem laid_small (os : Os) (args : Array Value) : LaidIn Tryz.prog (laidMem os args) small others :=
  LaidIn.of_run others 10 (by kernel_rfl) (by kernel_rfl) (by kernel_rfl) (by kernel_rfl)
set_option maxRecDepth 100000 in
theorem pow_ok : okD Tryz.prog 5 162 Rows.laid_internal_strconv_pow10Tab = true := by kernel_rfl
set_option maxRecDepth 100000 in
theorem pow_var (os : Os) (args : Array Value) : (laidMem os args).var? Tryz.prog "internal/strconv.pow10Tab" = some (flatV Rows.laid_internal_strconv_pow10Tab).toArray := by kernel_rfl
set_option maxRecDepth 100000 in
theorem pow_heap (os : Os) (args : Array Value) : ((laidMem os args).heap[11]?).map (fun o => match o with | .cells _ t (0, 0) => some t | _ => none) = some (some 162) := by kernel_rfl
set_option maxRecDepth 100000 in
theorem pow_plain : ((flatV Rows.laid_internal_strconv_pow10Tab).all fun v => match v with | .iface .. => false | _ => true) = true := by kernel_rfl
theorem laid_pow (os : Os) (args : Array Value) : LaidIn Tryz.prog (laidMem os args) [("internal/strconv.pow10Tab", Rows.laid_internal_strconv_pow10Tab)] [11] := by
  have hg : Tryz.prog.globalNamed "internal/strconv.pow10Tab" = some 11 := by kernel_rfl
  refine LaidIn.one (p := []) (fuel := 5) (t := 162) [11] hg (by kernel_rfl) (pow_var os args) (okD_read 5 pow_ok) (by rw [List.append_nil]; exact rowP_nodup _ _) (fun b off hp => ?_) (fun x hx => ?_)
  · rw [List.append_nil] at hp
    obtain ⟨i, _, hi⟩ := MemPlace.mem_row.1 hp
    simp only [MemPlace.cell.injEq] at hi
    obtain ⟨rfl, _⟩ := hi
    refine ⟨?_, fun u v hc => ?_⟩
    · have := pow_heap os args
      cases h : (laidMem os args).heap[11]? with
      | none => rw [h] at this; cases this
      | some o =>
        rw [h] at this
        simp only [Option.map_some, Option.some.injEq] at this
        split at this
        · exact ⟨_, _, rfl⟩
        · cases this
    · rw [World.var?_cell hg (pow_var os args)] at hc
      have := List.all_eq_true.1 pow_plain _ (List.mem_of_getElem? (by simpa using hc))
      cases this
  · rw [List.append_nil] at hx
    obtain ⟨i, _, rfl⟩ := MemPlace.mem_row.1 hx
    exact List.mem_singleton.2 rfl
theorem laid_met (os : Os) (args : Array Value) : laidMet Tryz.prog laidL ((laidWorld os).forCall (fun _ _ => 0) ⟨#[], args, []⟩).memory :=
  ((laid_small os args).append (laid_pow os args) (by decide)).met
end Go.Proofs.YtjcmbnpabkhcfaaGreatDoor
