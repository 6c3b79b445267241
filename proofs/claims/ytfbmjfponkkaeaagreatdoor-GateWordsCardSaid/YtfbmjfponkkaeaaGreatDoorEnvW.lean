/- What the rows of this seat give a walk of the tables that they list, and a world that holds all of them. -/
import Derived.Test.YtfbmjfponkkaeaaGreatDoorWorks
import Derived.Test.YtfbmjfponkkaeaaGreatDoorCards
import Derived.Test.YtfbmjfponkkaeaaGreatDoorTie
import Derived.WalkKit
import Derived.ProofKit
import Derived.OpenShut
import Derived.Deep.DeepHandedRow
import Derived.Lib.LaidTab
import Derived.Lib.LaidU8
import Derived.Shelf.Vars
namespace Go.Proofs.YtfbmjfponkkaeaaGreatDoor.Num
open Go.ChangeShapes Go.WideShapes Go.ChangeAt Go.RowKit
set_option linter.unusedVariables false
set_option linter.unusedSimpArgs false
theorem own : ownKnob Tryz.prog.godebug = none := by kernel_rfl
theorem cells_5 : Tryz.prog.cellsOf 5 = 1 := by kernel_rfl
theorem tabIs_of_reads {W : World} {name : String} {k : IntKind} {zs : List Int} {g : Nat} {t e : TypeId} {n : Nat}
    (hg : Tryz.prog.globalNamed name = some g) (hty : (Tryz.prog.globals[g]?).map (·.type) = some t) (ht : Tryz.prog.underlying t = some (.array n e)) (he : Tryz.prog.underlying e = some (.int k)) (hce : Tryz.prog.cellsOf e = 1) (hct : Tryz.prog.cellsOf t = n)
    (h : Lib.VarReads Tryz.prog W name (Lib.tabData k zs)) : Lib.TabIs Tryz.prog W name k zs := by
  obtain ⟨g', t', cs, fuel, p, hg', ht', hvar, hd⟩ := h
  obtain rfl := Option.some.inj (hg.symm.trans hg')
  obtain rfl := Option.some.inj (hty.symm.trans ht')
  unfold Lib.TabIs
  rw [hvar, ← Lib.cells_of_tab ht he hce hct hd]
theorem env_of {W : World} (h : laidMetH Tryz.prog Rows.gateWordsRow.laid W) (hsh : W.ShapedOpen Tryz.prog) : Env W := by
  have hm : laidMet Tryz.prog Rows.gateWordsRow.laid W := h
  refine ⟨?_, ?_, ?_⟩
  · exact Go.Proofs.cell_of_shapedOpen_int (zero := #[.int .i64 0]) (t := 3) hsh (of_decide_eq_true (by kernel_rfl)) (by kernel_rfl) rfl (by kernel_rfl) (by kernel_rfl) Tryz.underlying3
  · exact tabIs_of_reads (g := 0) (t := 187) (e := 5) (n := 256) (by kernel_rfl) (by kernel_rfl) (by kernel_rfl) Tryz.underlying5 cells_5 (by kernel_rfl)
      (Lib.laidMet.reads hm (d := Lib.tabData .u8 Lib.asciiSpaceTab) (by
        rw [show Lib.tabData .u8 Lib.asciiSpaceTab = Rows.laid_strings_asciiSpace by kernel_rfl]
        simp [Rows.gateWordsRow]))
  · exact tabIs_of_reads (g := 9) (t := 285) (e := 32) (n := 20) (by kernel_rfl) (by kernel_rfl) (by kernel_rfl) (by kernel_rfl) (by kernel_rfl) (by kernel_rfl)
      (Lib.laidMet.reads hm (d := Lib.tabData .u64 Lib.pow10Tab) (by
        rw [show Lib.tabData .u64 Lib.pow10Tab = Rows.laid_internal_strconv_uint64pow10 by kernel_rfl]
        simp [Rows.gateWordsRow]))
/-- The integers of a datum. -/
def intsOf : DataW Unit → List Value
  | .lit (.int k n) => [.int k n]
  | .agg l => go l
  | _ => []
where go : List (DataW Unit) → List Value
  | [] => []
  | .lit (.int k n) :: l => .int k n :: go l
  | .agg (.lit (.int k n) :: .lit (.int k' n') :: _) :: l => .int k n :: .int k' n' :: go l
  | _ :: l => go l
def strOf : DataW Unit → ByteArray
  | .iface _ (.ptr (.agg [.lit (.string bs)])) => ⟨bs.toArray⟩
  | _ => ⟨#[]⟩
noncomputable def laidWorld (os : Os) : World :=
  let N := (World.settled Tryz.prog os).heap.size
  let w0 := World.holding Tryz.prog os ⟨#[.cells (Lib.whiteT.map fun (z : Nat) => Value.int .u16 (z : Int)).toArray 245, .cells #[.slice (some ⟨N, 0, none⟩) 7 7, .slice none 0 0, .int .i64 2] 243,
    .cells #[.string (strOf Rows.laid_bulwark_asm_errNone)] 283, .cells #[.string (strOf Rows.laid_bulwark_asm_errTwice)] 283, .cells #[.string (strOf Rows.laid_strconv_ErrSyntax)] 283, .cells #[.string (strOf Rows.laid_strconv_ErrRange)] 283], #[], []⟩
  let put (h : Array Obj) (g : Nat) (cs : Array Value) : Array Obj := h.modify g fun
    | .cells _ t frozen => .cells cs t frozen
    | o => o
  let h0 := put w0.heap 0 (intsOf Rows.laid_strings_asciiSpace).toArray
  let h1 := put h0 1 #[.iface 281 (.pointer (some ⟨N + 2, 0, none⟩))]
  let h2 := put h1 2 #[.iface 281 (.pointer (some ⟨N + 3, 0, none⟩))]
  let h3 := put h2 3 #[.pointer (some ⟨N + 1, 0, none⟩)]
  let h5 := put h3 5 #[.iface 281 (.pointer (some ⟨N + 4, 0, none⟩))]
  let h6 := put h5 6 #[.iface 281 (.pointer (some ⟨N + 5, 0, none⟩))]
  let h7 := put h6 7 (intsOf Rows.laid_unicode_utf8_first).toArray
  let h8 := put h7 8 (intsOf Rows.laid_unicode_utf8_acceptRanges).toArray
  let h9 := put h8 9 (intsOf Rows.laid_internal_strconv_uint64pow10).toArray
  let h10 := put h9 10 (intsOf Rows.laid_math_bits_deBruijn32tab).toArray
  let h11 := put h10 11 (intsOf Rows.laid_math_bits_deBruijn64tab).toArray
  { w0 with heap := h11 }
/-- Each place once, by one number of bits. -/
def keyOf : MemPlace → Nat
  | .cell b o => 2 * (b * 1024 + o)
  | .map r => 2 * r + 1
def ndB : List Nat → Nat → Bool
  | [], _ => true
  | p :: l, m => match m.testBit p with
    | true => false
    | false => ndB l (m ||| (1 <<< p))
theorem ndB_ok : ∀ (l : List Nat) (m : Nat), ndB l m = true → l.Nodup ∧ ∀ p ∈ l, m.testBit p = false
  | [], _, _ => ⟨List.nodup_nil, fun _ h => by cases h⟩
  | p :: l, m, h => by
    unfold ndB at h
    split at h
    · cases h
    · rename_i hp
      obtain ⟨h1, h2⟩ := ndB_ok l _ h
      refine ⟨List.nodup_cons.2 ⟨fun hm => ?_, h1⟩, fun q hq => ?_⟩
      · have := h2 p hm
        simp [Nat.testBit_or, Nat.testBit_shiftLeft] at this
      · rcases List.mem_cons.1 hq with rfl | hq
        · exact hp
        · have := h2 q hq
          simp only [Nat.testBit_or, Bool.or_eq_false_iff] at this
          exact this.1
theorem laidMet_of_run2 {P : Program} {w : World} {l : List (String × DataW Unit)} (fuel : Nat) (h : (DataW.laidRun P w fuel (l.map (·.1))).map (·.1) = some l)
    (hr : (DataW.laidRun P w fuel (l.map (·.1))).map (fun x => ndB (x.2.map keyOf) 0 && laidRowsB P w x.2) = some true) : laidMet P l w := by
  cases hx : DataW.laidRun P w fuel (l.map (·.1)) with
  | none => simp [hx] at h
  | some x =>
    obtain ⟨l', ps⟩ := x
    simp only [hx, Option.map_some, Option.some.injEq] at h hr
    subst h
    simp only [Bool.and_eq_true] at hr
    have hn := (ndB_ok _ _ hr.1).1
    exact laidMet_of_run fuel hx (decide_eq_true ((List.pairwise_map.1 hn).imp fun h e => h (congrArg keyOf e))) hr.2
set_option maxRecDepth 100000 in
theorem laid_met (os : Os) (args : Array Value) : laidMet Tryz.prog Rows.gateWordsRow.laid ((laidWorld os).forCall (fun _ _ => 0) ⟨#[], args, []⟩).memory :=
  laidMet_of_run2 10 (by kernel_rfl) (by kernel_rfl)
end Go.Proofs.YtfbmjfponkkaeaaGreatDoor.Num
