import Derived.Test.YtfbmjfponkkaeaaGreatDoorGWords
import Derived.Laws.EntriesVeiled
import Derived.Deep.RegionHeld
namespace Go.Proofs.YtfbmjfponkkaeaaGreatDoor.Num
open Go.RowKit Go.Proofs.YtfbmjfponkkaeaaGreatDoorW.PrintWords Go.Proofs.YtfbmjfponkkaeaaGreatDoor.Pr Go.Maps Go.Proofs.YtfbmjfponkkaeaaGreatDoor.Fam
set_option linter.unusedVariables false
set_option linter.unusedSimpArgs false
/-- The closure's word on a line. -/
def isAt (s : ByteArray) (r : S65) : Bool := !(s.data.toList == []) && (r.f0.data.toList == s.data.toList)
set_option maxHeartbeats 400000 in
set_option maxRecDepth 100000 in
theorem clos63 (w : World) (r : S65) (s : ByteArray) (b : Nat) (hb : w.cell? ⟨b, 0, none⟩ = some (.string s)) :
    Calls Tryz.prog 63 #[.agg #[.string r.f0, .int .u8 r.f1.f0, .int .u8 r.f1.f1, .int .u8 r.f1.f2, .int .u8 r.f1.f3, .int .i32 r.f1.f4, .string r.f2], .pointer (some ⟨b, 0, none⟩)] w fun e w' => e = .returned (.bool (isAt s r)) ∧ Below w.heap.size w w' := by
  have hlt := World.block_lt_of_cell? w _ hb
  simp only at hlt
  by_cases he : s.data.toList = []
  · have he' : s.toList.isEmpty = true := by rw [bytes_toList, he]; rfl
    have hr : isAt s r = false := by simp [isAt, he]
    rw [hr]
    clear hr he
    go_enter Tryz.func63, Tryz.ntmps63
    go_wp2_with fail
    go_ret
    exact ⟨rfl, below_1 w _⟩
  · have he' : s.toList.isEmpty = false := ne_empty he
    have hr : isAt s r = (r.f0.toList == s.toList) := by
      have h0 : (s.data.toList == []) = false := by simpa using he
      rw [bytes_toList, bytes_toList, isAt, h0, Bool.not_false, Bool.true_and]
    have k0 := (below_1 w (.cells #[.string r.f0, .int .u8 r.f1.f0, .int .u8 r.f1.f1, .int .u8 r.f1.f2, .int .u8 r.f1.f3, .int .i32 r.f1.f4, .string r.f2] 65 (0, 0))).cell (p := ⟨b, 0, none⟩) hlt |>.trans hb
    rw [hr]
    clear hr he
    cases hq : r.f0.toList == s.toList
    all_goals
      go_enter Tryz.func63, Tryz.ntmps63
      go_wp2_with fail
      go_ret
      exact ⟨rfl, below_1 w _⟩
/-- Where the first line of that name stands, from k on; -1: nowhere. -/
def firstIn (s : ByteArray) : List S65 → Nat → Int
  | [], _ => -1
  | r :: l, k => if isAt s r = true then k else firstIn s l (k + 1)
def firstAt (s : ByteArray) (k : Nat) : Int := firstIn s (theLines.drop k) k
theorem firstAt_step (s : ByteArray) (k : Nat) (hk : k < 173) : firstAt s k = if isAt s (theLines.getD k z65) = true then (k : Int) else firstAt s (k + 1) := by
  have hl : k < theLines.length := by rw [lines_len]; exact hk
  unfold firstAt
  rw [List.drop_eq_getElem_cons hl, List.getD_eq_getElem?_getD, List.getElem?_eq_getElem hl]
  rfl
theorem firstAt_end (s : ByteArray) : firstAt s 173 = -1 := by
  unfold firstAt
  rw [List.drop_of_length_le (by rw [lines_len]; exact Nat.le_refl _)]
  rfl
set_option maxHeartbeats 400000 in
set_option maxRecDepth 100000 in
theorem index_calls (w : World) (g c b : Nat) (s : ByteArray) (hL : LinesAt w g 173 theLines) (hb : w.cell? ⟨b, 0, none⟩ = some (.string s)) :
    Calls Tryz.prog 99 #[.slice (some ⟨g, 0, none⟩) 173 c, .func (.func 63) #[] #[.pointer (some ⟨b, 0, none⟩)]] w fun e w' => e = .returned (.int .i64 (firstAt s 0)) ∧ Below w.heap.size w w' := by
  have HL := Aside0.mk hL
  have HS := Aside0.mk hb
  clear hL hb
  go_enter Tryz.func99, Tryz.ntmps99
  go_wp2_with fail
  go_loopg [8] 173 (fun q v w' => ∃ k : Nat, v = .int .i64 k ∧ q + k = 173 ∧ Aside0 (firstAt s k = firstAt s 0) ∧ Aside0 (LinesAt w' g 173 theLines) ∧ Aside0 (w'.cell? ⟨b, 0, none⟩ = some (.string s)) ∧ Aside0 (Below w.heap.size w w'))
  case atStart => exact ⟨0, rfl, rfl, ⟨rfl⟩, HL, HS, ⟨Below.refl _ _⟩⟩
  case round =>
    clear HL HS
    obtain ⟨k, rfl, hq0, HF, HL, HS, HB⟩ := hrel
    have HQ := Aside0.mk hq0
    clear hq0
    by_cases hk : k < 173
    · have hd : decide ((k : Int) < 173) = true := decide_eq_true (by omega)
      obtain ⟨c0, c1, c2, c3, c4, c5, c6⟩ := HL.out k hk
      have hst := firstAt_step s k hk
      generalize theLines.getD k z65 = r at *
      go_wp2_with fail
      refine (clos63 wr r s b HS.out).mono ?_
      rintro e w1 ⟨rfl, hb1⟩
      replace HL := Aside0.mk (HL.out.below hb1)
      replace HS := Aside0.mk ((hb1.cell (p := ⟨b, 0, none⟩) (World.block_lt_of_cell? wr _ HS.out)).trans HS.out)
      replace HB := Aside0.mk (below_step HB.out hb1)
      clear hb1
      cases hi : isAt s r
      · rw [hi, if_neg (by decide)] at hst
        have HF1 : Aside0 (firstAt s (k + 1) = firstAt s 0) := ⟨hst.symm.trans HF.out⟩
        clear hst
        go_wp2_with fail
        go_roundg (172 - k)
        case measure => have := HQ.out; omega
        case rel => exact ⟨k + 1, by go_num, by have := HQ.out; omega, HF1, HL, HS, HB⟩
      · rw [hi, if_pos rfl] at hst
        have hst2 : (k : Int) = firstAt s 0 := hst.symm.trans HF.out
        have HST := Aside0.mk hst2
        clear hst hst2
        go_wp2_with fail
        go_ret
        exact ⟨by rw [← HST.out]; rfl, HB.out⟩
    · have hd : decide ((k : Int) < 173) = false := decide_eq_false (by omega)
      obtain rfl : k = 173 := by have := HQ.out; omega
      have hst2 : (-1 : Int) = firstAt s 0 := (firstAt_end s).symm.trans HF.out
      have HST := Aside0.mk hst2
      clear hst2
      go_wp2_with fail
      go_ret
      exact ⟨by rw [← HST.out]; rfl, HB.out⟩
set_option maxHeartbeats 400000 in
set_option maxRecDepth 100000 in
theorem contains_calls (w : World) (g c b : Nat) (s : ByteArray) (hL : LinesAt w g 173 theLines) (hb : w.cell? ⟨b, 0, none⟩ = some (.string s)) :
    Calls Tryz.prog 62 #[.slice (some ⟨g, 0, none⟩) 173 c, .func (.func 63) #[] #[.pointer (some ⟨b, 0, none⟩)]] w fun e w' => e = .returned (.bool (decide (firstAt s 0 ≥ 0))) ∧ Below w.heap.size w w' := by
  have HL := Aside0.mk hL
  have HS := Aside0.mk hb
  clear hL hb
  go_enter Tryz.func62, Tryz.ntmps62
  go_wp2_with fail
  refine (index_calls w g c b s HL.out HS.out).mono ?_
  rintro e w1 ⟨rfl, hb1⟩
  have HB := Aside0.mk hb1
  clear hb1
  cases hd : decide (firstAt s 0 ≥ 0)
  all_goals
    go_wp2_with fail
    go_ret
    exact ⟨by rw [hd]; rfl, HB.out⟩
theorem ML_boxed (w : World) (s : ByteArray) : Below w.heap.size w (w.alloc (.cells #[.string s] 9 (0, 0))) := below_1 w _
set_option maxHeartbeats 400000 in
set_option maxRecDepth 100000 in
theorem place_none (w : World) (s : ByteArray) (hE : Env w) (h : firstAt s 0 = -1) : Calls Tryz.prog 27 #[.string s] w fun e w' => e = .returned (.tuple #[.int .u32 0, .int .i64 6]) ∧ Below w.heap.size w w' := by
  have HE := Aside0.mk hE
  have HB := Aside0.mk (below_1 w (.cells #[.string s] 9 (0, 0)))
  have HS := Aside0.mk (blk_new w (.cells #[.string s] 9 (0, 0)))
  have hd : decide (firstAt s 0 ≥ 0) = false := by rw [h]; decide
  clear hE
  go_enter Tryz.func27, Tryz.ntmps27
  go_wp2_with fail
  refine (lines_calls _ (HE.out.below HB.out)).mono ?_
  rintro e w1 ⟨g, c, rfl, hR, hB⟩
  have HR := Aside0.mk hR
  replace HS := Aside0.mk (blk_below HS.out hB)
  replace HB := Aside0.mk (below_step HB.out hB)
  clear hR hB
  go_wp2_with fail
  refine (contains_calls w1 g c w.heap.size s (lines_at HR.out).1 ((blk_cell HS.out 0).trans rfl)).mono ?_
  rw [hd]
  rintro e w2 ⟨rfl, hB⟩
  replace HB := Aside0.mk (below_step HB.out hB)
  clear hB
  go_wp2_with fail
  go_ret2
  exact ⟨rfl, HB.out⟩
set_option maxHeartbeats 400000 in
set_option maxRecDepth 100000 in
theorem place_calls (w : World) (s : ByteArray) (n : Int) (hE : Env w) (h : 0 ≤ firstAt s 0) (hs : s.size ≤ 1000000) (h1 : Maps.has (nameD 173) (.string s.data.toList) = true) (h2 : atOf s.data.toList = some n) (h3 : 0 ≤ n ∧ n ≤ 173) :
    Calls Tryz.prog 27 #[.string s] w fun e w' => e = .returned (.tuple #[.int .u32 (4 * n), .int .i64 0]) ∧ Below w.heap.size w w' := by
  have HE := Aside0.mk hE
  have HB := Aside0.mk (below_1 w (.cells #[.string s] 9 (0, 0)))
  have HS := Aside0.mk (blk_new w (.cells #[.string s] 9 (0, 0)))
  have hd : decide (firstAt s 0 ≥ 0) = true := decide_eq_true h
  have H1 := Aside0.mk h1
  have H2 := Aside0.mk h2
  have H3 := Aside0.mk h3
  clear hE h1 h2 h3
  go_enter Tryz.func27, Tryz.ntmps27
  go_wp2_with fail
  refine (lines_calls _ (HE.out.below HB.out)).mono ?_
  rintro e w1 ⟨g, c, rfl, hR, hB⟩
  have HR := Aside0.mk hR
  replace HS := Aside0.mk (blk_below HS.out hB)
  replace HB := Aside0.mk (below_step HB.out hB)
  clear hR hB
  go_wp2_with fail
  refine (contains_calls w1 g c w.heap.size s (lines_at HR.out).1 ((blk_cell HS.out 0).trans rfl)).mono ?_
  rw [hd]
  rintro e w2 ⟨rfl, hB⟩
  replace HS := Aside0.mk (blk_below HS.out hB)
  replace HB := Aside0.mk (below_step HB.out hB)
  clear hB HR
  have k0 := blk_cell HS.out 0
  simp only [List.getElem?_toArray, List.getElem?_cons_zero] at k0
  go_wp2_with fail
  have hgd : w2.drew.cell? ⟨w.heap.size, 0, none⟩ = some (.string s) := k0
  replace HB := Aside0.mk (below_drew HB.out)
  have L0 := Aside0.mk (lines_calls _ (HE.out.below HB.out))
  clear k0
  go_region_held (fun w' => w'.cell? ⟨w.heap.size, 0, none⟩ = some (.string s)) (first | exact hgd | assumption)
    (first
      | (refine L0.out.mono ?_; rintro e w3 ⟨g3, c3, rfl, hR3, hB3⟩; have HR3 := Aside0.mk hR3; have HB3 := Aside0.mk hB3; have hc3 : w3.cell? ⟨w.heap.size, 0, none⟩ = some (.string s) := (hB3.cell (World.block_lt_of_cell? _ _ hgd)).trans hgd; clear hR3 hB3)
      | (refine (asm_Place_calls _ g3 c3 s n (lines_at HR3.out).1 (lines_at HR3.out).2.2 hs H1.out H2.out H3.out).mono ?_; rintro e w4 ⟨rfl, hB4⟩; have HB4 := Aside0.mk hB4; have hc4 : w4.cell? ⟨w.heap.size, 0, none⟩ = some (.string s) := (hB4.cell (World.block_lt_of_cell? _ _ hc3)).trans hc3; clear hB4))
  all_goals
    go_wp2_with fail
    go_ret2
    exact ⟨rfl, below_step (below_step HB.out HB3.out) HB4.out⟩
end Go.Proofs.YtfbmjfponkkaeaaGreatDoor.Num
