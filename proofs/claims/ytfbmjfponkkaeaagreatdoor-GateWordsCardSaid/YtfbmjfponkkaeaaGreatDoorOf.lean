/- instr.of: the family of an instruction, and its number in it. -/
import Derived.Test.YtfbmjfponkkaeaaGreatDoorNamed
namespace Go.Proofs.YtfbmjfponkkaeaaGreatDoor.Fam
open Go.RowKit Go.Proofs.YtfbmjfponkkaeaaGreatDoorW.PrintWords Go.Proofs.YtfbmjfponkkaeaaGreatDoor.Pr
set_option linter.unusedVariables false
set_option linter.unusedSimpArgs false

def ofIn (o : Int) : List Fam → Option (Fam × Nat)
  | [] => none
  | f :: r => if f.first ≤ o ∧ o - f.first < f.words.length then some (f, (o - f.first).toNat) else ofIn o r
theorem of_end {o : Int} {x : Fam × Nat} {k : Nat} (h : ofIn o (theFams.drop k) = some x) (hk : 18 ≤ k) : False := by
  rw [List.drop_of_length_le (show theFams.length ≤ k from hk)] at h
  simp [ofIn] at h
set_option maxHeartbeats 4000000 in
set_option maxRecDepth 100000 in
theorem of_calls (o : Int) (f0 : Fam) (j : Nat) (w : World) (h : ofIn o theFams = some (f0, j)) (ho : 0 ≤ o) (ho2 : o ≤ 255) : Calls Tryz.prog 170 #[.int .u8 o] w fun e w' => ∃ B c D d,
    e = .returned (.tuple #[.agg #[.int .u8 f0.first, .func (.func f0.form) #[] #[], .slice B f0.names.length c, .slice D f0.words.length d], .int .i64 j, .bool true]) ∧
      (Kd.int .u32).C w' D f0.words.length f0.words ∧ Below w.heap.size w w' := by
  have H := Aside0.mk h
  clear h
  have hu194 := Tryz.underlying194
  go_enter Tryz.func170, Tryz.ntmps170
  go_wp2_with (go_at_call 134; refine (families_calls _).mono ?_; rintro e w1 ⟨A, c, rfl, hC0, hB0⟩; have HC := Aside0.mk hC0; have HB := Aside0.mk hB0; clear hC0 hB0)
  have BK0 : w1.heap[w.heap.size]? = some (.cells #[.int .u8 0, .nilFunc, .slice none 0 0, .slice none 0 0] 194 (0, 0)) := blk_below (blk_new w _) HB.out
  have HB' := Aside0.mk (below_then (below_1 w _) (by simp) HB.out)
  have BK := Aside0.mk BK0
  have hC1 := HC.out
  rw [World.size_alloc] at hC1
  replace HC := Aside0.mk hC1
  clear hC1
  clear BK0 HB
  go_loopg [9] 18 (fun q v w' => ∃ k : Nat, v = .int .i64 k ∧ q + k = 18 ∧ Aside0 (ofIn o (theFams.drop k) = some (f0, j)) ∧ Aside0 (kFam.R 194 w' (w.heap.size + 1) (fun _ => True) (.slice A 18 c) theFams) ∧ Aside0 (Below w.heap.size w w') ∧ Aside0 (w'.heap[w.heap.size]? = some (.cells #[.int .u8 0, .nilFunc, .slice none 0 0, .slice none 0 0] 194 (0, 0))))
  case atStart => exact ⟨0, rfl, rfl, H, HC, HB', BK⟩
  case round =>
    clear HC HB' H BK
    obtain ⟨k, rfl, hq0, HN, HC, HB, BK⟩ := hrel
    have HQ := Aside0.mk hq0
    clear hq0
    have hlt : k < 18 := by
      rcases Nat.lt_or_ge k 18 with h | h
      · exact h
      · exact (of_end HN.out h).elim
    have hdl : decide ((k : Int) < 18) = true := decide_eq_true (by omega)
    have hb := fam_bounds k hlt
    have HD := Aside0.mk (fam_drop k hlt)
    obtain ⟨ad, B, c1, D, d, eA, h0, h1, h2, h3, hS, hW⟩ := at_Fam HC.out k hlt
    cases eA
    generalize theFams.getD k zFam = f at *
    have HS := Aside0.mk hS
    have HW := Aside0.mk hW
    clear hS hW
    obtain ⟨b0, b1, b2, b3⟩ := hb
    simp only [fnV] at h1
    have hn := HN.out
    rw [HD.out, ofIn] at hn
    by_cases t1 : f.first ≤ o
    · have t1' : decide (f.first ≤ o) = true := decide_eq_true t1
      by_cases t2 : o - f.first < f.words.length
      · have t2' : decide (o - f.first < (f.words.length : Int)) = true := decide_eq_true t2
        rw [if_pos ⟨t1, t2⟩] at hn
        have HE := Aside0.mk hn
        have hlt2 := blk_lt BK.out
        have hz0 : wr.cell? ⟨w.heap.size, 0, none⟩ = some (.int .u8 0) := (blk_cell BK.out 0).trans rfl
        have hz1 : wr.cell? ⟨w.heap.size, 1, none⟩ = some .nilFunc := (blk_cell BK.out 1).trans rfl
        have hz2 : wr.cell? ⟨w.heap.size, 2, none⟩ = some (.slice none 0 0) := (blk_cell BK.out 2).trans rfl
        have hz3 : wr.cell? ⟨w.heap.size, 3, none⟩ = some (.slice none 0 0) := (blk_cell BK.out 3).trans rfl
        have hf0 := blk_frozen BK.out 0
        have hf1 := blk_frozen BK.out 1
        have hf2 := blk_frozen BK.out 2
        have hf3 := blk_frozen BK.out 3
        clear hn
        go_wp2_with fail
        go_region
        go_wp2
        have hE := Option.some.inj HE.out
        obtain ⟨rfl, rfl⟩ := Prod.mk.inj hE
        refine bodyPost_ret (results_ctt rfl _ _ w.heap.size 194 #[.int .u8 f.first, .func (.func f.form) #[] #[], .slice B f.names.length c1, .slice D f.words.length d] (0, 0) _ rfl ?hblk hu194 rfl (by kernel_rfl)) rfl ⟨B, c1, D, d, ?hv, ?hC, ?hB⟩
        case hblk =>
          (with_reducible repeat (first | refine blk_drewN ?_ _ | refine blk_drew ?_ | refine blk_alloc ?_ _))
          refine blk_put (cs := #[.int .u8 f.first, .func (.func f.form) #[] #[], .slice B f.names.length c1, .slice none 0 0]) ?_ 3 _ rfl
          refine blk_put (cs := #[.int .u8 f.first, .func (.func f.form) #[] #[], .slice none 0 0, .slice none 0 0]) ?_ 2 _ rfl
          refine blk_put (cs := #[.int .u8 f.first, .nilFunc, .slice none 0 0, .slice none 0 0]) ?_ 1 _ rfl
          exact blk_put BK.out 0 _ rfl
        case hv => rw [show ((o - f.first).toNat : Int) = o - f.first from by omega]; rfl
        case hC =>
          have hne : ∀ k_, (True ∧ w.heap.size + 1 ≤ k_ ∧ k_ < wr.heap.size ∧ ∃ q, q ∈ 23 :: (Kd.int .u32).E ∧ ∃ cells, wr.heap[k_]? = some (.cells cells q (0, 0))) → k_ ≠ w.heap.size := fun k_ h_ => by have := h_.2.1; omega
          have hr := Kd.R_bound HW.out
          have hr2 := Kd.R_far (Kd.R_far (Kd.R_far (Kd.R_far hr (p := ⟨w.heap.size, 0, none⟩) hne (.int .u8 f.first)) (p := ⟨w.heap.size, 1, none⟩) hne (.func (.func f.form) #[] #[])) (p := ⟨w.heap.size, 2, none⟩) hne (.slice B f.names.length c1)) (p := ⟨w.heap.size, 3, none⟩) hne (.slice D f.words.length d)
          exact (Kd.R_reads' (Kd.R_drew (Kd.R_below hr2 (below_1 _ _)))).2.2
        case hB =>
          exact below_drew (below_alloc (below_set (below_set (below_set (below_set HB.out (Nat.le_refl _)) (Nat.le_refl _)) (Nat.le_refl _)) (Nat.le_refl _)) _)
      · rw [if_neg (fun h => t2 h.2)] at hn
        have HE := Aside0.mk hn
        have t2' : decide (o - f.first < (f.words.length : Int)) = false := decide_eq_false t2
        clear hn
        go_wp2_with fail
        go_roundg (17 - k)
        case measure => have := HQ.out; omega
        case rel => exact ⟨k + 1, by go_num, by have := HQ.out; omega, HE, ⟨Kd.R_below HC.out (below_1 _ _)⟩, ⟨below_alloc HB.out _⟩, ⟨blk_alloc BK.out _⟩⟩
    · rw [if_neg (fun h => t1 h.1)] at hn
      have HE := Aside0.mk hn
      have t1' : decide (f.first ≤ o) = false := decide_eq_false t1
      clear hn
      go_wp2_with fail
      go_roundg (17 - k)
      case measure => have := HQ.out; omega
      case rel => exact ⟨k + 1, by go_num, by have := HQ.out; omega, HE, ⟨Kd.R_below HC.out (below_1 _ _)⟩, ⟨below_alloc HB.out _⟩, ⟨blk_alloc BK.out _⟩⟩

end Go.Proofs.YtfbmjfponkkaeaaGreatDoor.Fam
