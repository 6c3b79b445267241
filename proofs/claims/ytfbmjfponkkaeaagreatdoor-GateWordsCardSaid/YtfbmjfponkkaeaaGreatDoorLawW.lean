import Derived.Test.YtfbmjfponkkaeaaGreatDoorGets
import Derived.Test.YtfbmjfponkkaeaaGreatDoorGetW
import Derived.Outline
namespace Go.Proofs.YtfbmjfponkkaeaaGreatDoor.Num
open Go.RowKit Go.Proofs.YtfbmjfponkkaeaaGreatDoorW.PrintWords Go.Proofs.YtfbmjfponkkaeaaGreatDoor.Pr Go.Maps Go.Proofs.YtfbmjfponkkaeaaGreatDoor.Fam
set_option linter.unusedVariables false
set_option linter.unusedSimpArgs false
theorem get_word (k : Nat) (hk : k < 173) (w : World) : Calls Tryz.prog 29 #[.int .u32 (theWords.getD k 0)] w fun e w' => e = .returned (.tuple #[.agg #[.int .u8 (theXs.getD k z63).f0, .int .u8 (theXs.getD k z63).f1, .int .u8 (theXs.getD k z63).f2, .int .u8 (theXs.getD k z63).f3, .int .i32 (theXs.getD k z63).f4], .int .i64 0]) ∧ Below w.heap.size w w' :=
  get_walk w _ _ (words_in k hk).1 (words_in k hk).2 (gets_at k hk)
theorem x_range : ∀ k, k < 173 → 0 ≤ (theXs.getD k z63).f0 ∧ (theXs.getD k z63).f0 ≤ 255 ∧ -2147483648 ≤ (theXs.getD k z63).f4 ∧ (theXs.getD k z63).f4 ≤ 2147483647 := by decide +kernel
set_option maxHeartbeats 4000000 in
set_option maxRecDepth 100000 in
theorem law_walk (w : World) (n : Int) (h0 : 0 ≤ n) (h1 : n ≤ 65535) (hE : Env w) : Calls Tryz.prog 6 #[.int .u16 n] w fun e w' => e = .returned (.bool true) ∧ Below w.heap.size w w' := by
  have HE := Aside0.mk hE
  clear hE
  have hu63 := Tryz.underlying63
  obtain ⟨k, hk, hkn⟩ : ∃ k : Nat, k < 173 ∧ n % 173 = k := ⟨(n % 173).toNat, by omega, by omega⟩
  have HKN := Aside0.mk hkn
  clear hkn
  go_enter Tryz.func6, Tryz.ntmps6
  go_wp2_with fail
  refine (words_calls w HE.out).mono ?_
  rintro e w1 ⟨g, c, rfl, hO, hB⟩
  have HO := Aside0.mk hO
  have HB := Aside0.mk hB
  clear hO hB
  go_wp2_with fail
  refine (size_calls w1 (HE.out.below HB.out)).mono ?_
  rintro e w2 ⟨rfl, hB⟩
  replace HO := Aside0.mk (own_below HO.out hB)
  replace HB := Aside0.mk (below_step HB.out hB)
  clear hB
  have c1 := word_cell HO.out k hk
  have hkn := HKN.out
  go_wp2_with fail
  refine (get_word k hk w2).mono ?_
  rintro e w3 ⟨rfl, hB⟩
  replace HO := Aside0.mk (own_below HO.out hB)
  replace HB := Aside0.mk (below_step HB.out hB)
  have hxr := x_range k hk
  have HJ := Aside0.mk (jumps_in k hk)
  clear hB c1 hkn
  generalize theXs.getD k z63 = X at *
  obtain ⟨o, q1, q2, q3, im⟩ := X
  simp only at hxr HJ
  obtain ⟨x1, x2, x3, x4⟩ := hxr
  have c172 := word_cell HO.out 172 (by decide)
  have hl172 := World.block_lt_of_cell? _ _ c172
  have HCA : ∀ ob, (w3.alloc ob).cell? ⟨g, 172, none⟩ = some (.int .u32 (theWords.getD 172 0)) := fun ob => by rw [World.cell?_alloc_some _ _ _ (by rw [c172]; rfl)]; exact c172
  have hfin : ∀ ob : Obj, Calls Tryz.prog 29 #[.int .u32 (theWords.getD 172 0)] (w3.alloc ob) fun e w' => e = .returned (.tuple #[.agg #[.int .u8 3, .int .u8 0, .int .u8 0, .int .u8 0, .int .i32 (theXs.getD 172 z63).f4], .int .i64 0]) ∧ Below w.heap.size w w' := fun ob => by
    have h := get_word 172 (by decide) (w3.alloc ob)
    rw [last_is] at h
    exact h.mono fun e w' ⟨he, hb⟩ => ⟨he, below_step (below_alloc HB.out ob) hb⟩
  have HF := Aside0.mk hfin
  clear hfin hl172 c172
  have HW : ∀ w' : World, Below w.heap.size w w' → ∀ ob, Calls Tryz.prog 16 #[] (w'.alloc ob) fun e w'' => e = .returned (.bool true) ∧ Below w.heap.size w w'' := fun w' hb ob =>
    (works_calls (w'.alloc ob) (HE.out.below (below_alloc hb ob))).mono fun e w'' ⟨he, hb'⟩ => ⟨he, below_step (below_alloc hb ob) hb'⟩
  have HWA := Aside0.mk HW
  clear HW
  generalize (theXs.getD 172 z63).f4 = im2 at *
  have hcases : (o = 3 ∧ 0 ≤ 4 * (n % 173) + im ∧ 4 * (n % 173) + im < 692) ∨ (o ≠ 3 ∧ 5 ≤ o ∧ o ≤ 10 ∧ 0 ≤ 4 * (n % 173) + im ∧ 4 * (n % 173) + im < 692) ∨ (o ≠ 3 ∧ 5 ≤ o ∧ 10 < o) ∨ (o ≠ 3 ∧ o < 5) := by
    have hj := HJ.out
    rw [← HKN.out] at hj
    omega
  clear HJ
  rcases hcases with ⟨rfl, hj1, hj2⟩ | ⟨hn3, h5, h10, hj1, hj2⟩ | ⟨hn3, h5, h10⟩ | ⟨hn3, h5⟩
  all_goals first | have he3 : (o == 3) = false := by simpa using hn3 | skip
  all_goals first | have hd3 : decide (o = 3) = false := by simpa using hn3 | skip
  all_goals
    go_wp2_with fail
    refine (HF.out _).mono ?_
    rintro e w4 ⟨rfl, hb4⟩
    have HB4 := Aside0.mk hb4
    clear hb4
    go_wp2_with fail
    refine (HWA.out _ HB4.out _).mono ?_
    rintro e w5 ⟨rfl, hb5⟩
    have HB5 := Aside0.mk hb5
    clear hb5
    go_wp2_with fail
    go_ret
    exact ⟨rfl, HB5.out⟩
end Go.Proofs.YtfbmjfponkkaeaaGreatDoor.Num
