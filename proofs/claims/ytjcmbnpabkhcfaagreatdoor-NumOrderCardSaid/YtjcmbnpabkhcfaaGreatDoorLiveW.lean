/- The law's fixed part (lives, function 11) answers true in every world that holds the tables of the row. -/
import Derived.Test.YtjcmbnpabkhcfaaGreatDoorFlat
import Derived.Test.YtjcmbnpabkhcfaaGreatDoorClo
import Derived.Stop.LaidErr
namespace Go.Proofs.YtjcmbnpabkhcfaaGreatDoor
open Go.RowKit Eng
set_option linter.unusedVariables false
set_option linter.unusedSimpArgs false
theorem step_of_below {φ : Phi} {h : H} {w w' : World} (hw : WR φ h w) (hb : Below w.heap.size w w') : Step φ h w φ h w' :=
  ⟨⟨fun i e p a b => (hw.ent i e p a b).mono (fun _ _ h => h) (hb.block _ (hw.dom i p b).2), hw.sep, fun i p a => ⟨(hw.dom i p a).1, Nat.lt_of_lt_of_le (hw.dom i p a).2 hb.size⟩⟩, .refl h,
    ⟨fun _ _ => rfl, hb.os, hb.tape, hb.output, hb.size, fun b hb' _ => hb.block b hb', fun _ _ hi _ => .inl hi⟩⟩
theorem extC_ok : CallOk Tryz.prog 15 extC := by
  have key : ∀ f args h v h', extC f args h = some (v, h') → ∃ s : ByteArray, f = 53 ∧ args = [.sc (.string s)] ∧ s.size ≤ 1000 ∧ v = .sc (.string s) ∧ h' = h := by
    intro f args h v h' he
    unfold extC at he
    split at he
    · rename_i s
      split at he
      · rename_i hs
        simp only [Option.some.injEq, Prod.mk.injEq] at he
        obtain ⟨rfl, rfl⟩ := he
        exact ⟨s, rfl, rfl, of_decide_eq_true hs, rfl, rfl⟩
      · cases he
    · cases he
  refine ⟨fun f args h v h' he φ w vs hw hg hv => ?_, fun f args h v h' he => ?_⟩
  · obtain ⟨s, rfl, rfl, hs, rfl, rfl⟩ := key _ _ _ _ _ he
    cases hv with
    | cons a b =>
      cases a
      cases b
      exact (clone_calls s w hs).mono fun e w' ⟨h1, h2⟩ => ⟨_, φ, h1, .sc, step_of_below hw h2⟩
  · obtain ⟨s, rfl, rfl, hs, rfl, rfl⟩ := key _ _ _ _ _ he
    exact .refl _
theorem mkTr_get : ∀ {l : List (Nat × Ent)} {i : Nat} {e : Ent}, (mkTr l).get i = some e → (i, e) ∈ l
  | [], i, e, h => by
    rw [show mkTr [] = .nil from rfl, Tr.get_nil] at h
    cases h
  | p :: l, i, e, h => by
    rw [show mkTr (p :: l) = (match (mkTr l).set depth p.1 (some p.2) with | some t' => t' | none => mkTr l) from rfl] at h
    split at h
    · rename_i t' ht
      obtain ⟨h1, h2⟩ := Tr.set_get _ _ _ _ _ ht
      by_cases hi : i = p.1
      · subst hi
        rw [h1] at h
        cases h
        simp
      · rw [h2 i hi] at h
        exact List.mem_cons_of_mem _ (mkTr_get h)
    · exact List.mem_cons_of_mem _ (mkTr_get h)
structure EnvL (W : World) : Prop where
  tab : ∀ p ∈ tabs, W.rangeAt p.1 0 p.2
  err : ∃ (a : Addr) (s : ByteArray), W.rangeAt 2 0 [.iface 130 (.pointer (some a))] ∧ W.cell? a = some (.string s)
def phi (a : Addr) : Phi := fun i => if i < 15 then some ⟨i, 0, 4096⟩ else if i = 50 then some ⟨a.block, a.off, 1⟩ else none
set_option maxRecDepth 100000 in
theorem tabs_ok : (tabs.all fun p => decide (p.1 < 15) && decide (p.2.length ≤ 4096) && p.2.all (fun v => v.oneCell')) = true := by kernel_rfl
set_option maxRecDepth 100000 in
theorem tabs_14 : (match tabs.getLast? with | some (14, v :: _) => true | _ => false) = true := by kernel_rfl
theorem block_of_cell {W : World} {a : Addr} {v : Value} (h : W.cell? a = some v) : a.block < W.heap.size ∧ a.spot = none := by
  unfold World.cell? at h
  split at h
  · rename_i hb
    split at h
    · cases h
    · rename_i hs
      exact ⟨(Array.getElem?_eq_some_iff.1 hb).1, by simpa using hs⟩
  · cases h
theorem env_size {W : World} (he : EnvL W) : 15 ≤ W.heap.size := by
  have h := tabs_14
  split at h
  · rename_i v l hl
    have hm := he.tab _ (List.mem_of_getLast? hl)
    have := (block_of_cell (hm 0 v rfl)).1
    simp only at this
    omega
  · cases h
theorem wr_h0 {W : World} (he : EnvL W) : ∃ φ, WR φ h0 W ∧ GR φ 15 ∧ ∀ i p, φ i = some p → i < 100 := by
  obtain ⟨a, s, hr, hc⟩ := he.err
  obtain ⟨hlt, hsp⟩ := block_of_cell hc
  have hsz := env_size he
  have htab := List.all_eq_true.1 tabs_ok
  have hdom : ∀ i p, phi a i = some p → i < 100 ∧ p.b < W.heap.size := by
    intro i p hp
    unfold phi at hp
    split at hp
    · cases hp
      refine ⟨by omega, ?_⟩
      simp only
      omega
    · split at hp
      · cases hp
        exact ⟨by omega, hlt⟩
      · cases hp
  have hent : ∀ i e, h0.mem.get i = some e → i < 15 := by
    intro i e hi
    have hm : (i, e) ∈ ents := mkTr_get hi
    rcases List.mem_cons.1 hm with h | h
    · cases h
      omega
    · obtain ⟨p, hp, hpe⟩ := List.mem_map.1 h
      cases hpe
      have := htab p hp
      simp only [Bool.and_eq_true, decide_eq_true_eq] at this
      exact this.1.1
  have hphi : ∀ i p, i < 15 → phi a i = some p → p = ⟨i, 0, 4096⟩ := by
    intro i p hi hp
    unfold phi at hp
    rw [if_pos hi] at hp
    cases hp
    rfl
  refine ⟨phi a, ⟨fun i e p hi hp => ?_, fun i j p q hi hj hp hq hij => ?_, hdom⟩, fun g hg => ⟨4096, if_pos hg⟩, fun i p hp => (hdom i p hp).1⟩
  · have hi15 := hent i e hi
    obtain rfl := hphi i p hi15 hp
    have hm : (i, e) ∈ ents := mkTr_get hi
    rcases List.mem_cons.1 hm with h | h
    · cases h
      refine ⟨⟨_, .cons (.ifc (.ptr (p := ⟨a.block, a.off, 1⟩) rfl)) .nil, ?_, ?_⟩, by decide, fun h => by cases h⟩
      · have e : (⟨a.block, a.off + 0, none⟩ : Addr) = a := by
          obtain ⟨b, o, s⟩ := a
          simp only at hsp
          subst hsp
          rfl
        rw [e]
        exact hr
      · intro v hv
        rw [List.mem_singleton] at hv
        subst hv
        rfl
    · obtain ⟨q, hq, hqe⟩ := List.mem_map.1 h
      cases hqe
      have h1 := htab q hq
      simp only [Bool.and_eq_true, decide_eq_true_eq, List.all_eq_true] at h1
      exact ⟨⟨q.2, VRs.scs _, he.tab q hq, h1.2⟩, by rw [List.length_map]; exact h1.1.2, fun h => by cases h⟩
  · obtain ⟨ei, hei⟩ := Option.isSome_iff_exists.1 hi
    obtain ⟨ej, hej⟩ := Option.isSome_iff_exists.1 hj
    obtain rfl := hphi i p (hent i ei hei) hp
    obtain rfl := hphi j q (hent j ej hej) hq
    exact hij
theorem lives_calls {W : World} (he : EnvL W) : Calls Tryz.prog 11 #[] W fun e W' => e = .returned (.bool true) ∧ Below W.heap.size W W' := by
  obtain ⟨φ, hw, hg, hd⟩ := wr_h0 he
  have hrun := lives_run
  split at hrun
  · rename_i h' hx
    have hl := of_decide_eq_true hrun
    have := (runE_ok (P := Tryz.prog) (G := 15) (S := 1000) (ext := extC) (by kernel_rfl) extC_ok 100).run 11 [] h0 _ h' hx φ W [] hw hg .nil
    refine this.mono fun e W' ⟨u, φ', h1, h2, h3⟩ => ?_
    cases h2
    refine ⟨h1, ⟨h3.ps.os, h3.ps.tape, h3.ps.output, h3.ps.size, fun k hk => h3.ps.frame k hk fun i p hi _ => ?_⟩⟩
    rw [hl]
    exact hd i p hi
  · cases hrun
theorem row130 (u : TypeId) (h : Tryz.prog.typeName? 3 u = some "*errors.errorString") : u = 130 :=
  typeName_ptr_named (nm := "errors.errorString") (by rw [show "*" ++ "errors.errorString" = "*errors.errorString" by decide]; kernel_rfl) (by kernel_rfl) (by decide) u (by rw [show "*" ++ "errors.errorString" = "*errors.errorString" by decide]; exact h)
/-- The tables as the rows list them. -/
def laidL : List (String × DataW Unit) := Rows.numDoesRow.laid
set_option maxRecDepth 100000 in
theorem env_of {W : World} (hm : laidMet Tryz.prog laidL W) : EnvL W := by
  refine ⟨fun p hp => ?_, ?_⟩
  · have hr : ∀ {n : String} {d : DataW Unit}, (n, d) ∈ laidL → Lib.VarReads Tryz.prog W n d := fun h => Lib.laidMet.reads hm h
    simp only [tabs, List.mem_cons, List.not_mem_nil, or_false] at hp
    rcases hp with rfl | rfl | rfl | rfl | rfl | rfl
    · exact range_of_reads (t := 4) 10 (by kernel_rfl) (by kernel_rfl) (by kernel_rfl) (hr (n := "internal/strconv.optimize") (by simp [laidL, Rows.numDoesRow]))
    · exact range_of_reads (t := 116) 10 (by kernel_rfl) (by kernel_rfl) (by kernel_rfl) (hr (n := "internal/strconv.float64info") (by simp [laidL, Rows.numDoesRow]))
    · exact range_of_reads (t := 145) 10 (by kernel_rfl) (by kernel_rfl) (by kernel_rfl) (hr (n := "internal/strconv.uint64pow10") (by simp [laidL, Rows.numDoesRow]))
    · exact range_of_reads (t := 162) 10 (by kernel_rfl) (by kernel_rfl) (by kernel_rfl) (hr (n := "internal/strconv.pow10Tab") (by simp [laidL, Rows.numDoesRow]))
    · exact range_of_reads (t := 88) 10 (by kernel_rfl) (by kernel_rfl) (by kernel_rfl) (hr (n := "math/bits.deBruijn32tab") (by simp [laidL, Rows.numDoesRow]))
    · exact range_of_reads (t := 171) 10 (by kernel_rfl) (by kernel_rfl) (by kernel_rfl) (hr (n := "math/bits.deBruijn64tab") (by simp [laidL, Rows.numDoesRow]))
  · have h9 : laidMet Tryz.prog (("strconv.ErrRange", Rows.laid_strconv_ErrRange) :: laidL.drop 10) W := hm.tail.tail.tail.tail.tail.tail.tail.tail.tail
    obtain ⟨a, s, h1, h2, _, _⟩ := laid_sentinel (ti := 48) (tp := 130) (te := 132) (ts := 9) h9 (g := 2) (by kernel_rfl) (by kernel_rfl) Tryz.underlying48 row130 Tryz.underlying130 Tryz.underlying132 rfl rfl Tryz.underlying9 (by kernel_rfl) (by kernel_rfl)
    refine ⟨a, s, fun j v hv => ?_, h2⟩
    rw [Nat.zero_add, World.var?_cell (by kernel_rfl) h1 j]
    simpa using hv
end Go.Proofs.YtjcmbnpabkhcfaaGreatDoor
