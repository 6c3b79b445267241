import Derived.Test.YtfbmjfponkkaeaaGreatDoorLines
import Derived.Maps.OwnOps
import Derived.Maps.OwnSet
namespace Go.Proofs.YtfbmjfponkkaeaaGreatDoor.Num
open Go.RowKit Go.Proofs.YtfbmjfponkkaeaaGreatDoorW.PrintWords Go.Proofs.YtfbmjfponkkaeaaGreatDoor.Pr Go.Maps
set_option linter.unusedVariables false
set_option linter.unusedSimpArgs false

/-- A row of lines lies in block g. -/
def LinesAt (w : World) (g n : Nat) (xs : List S65) : Prop := ∀ k, k < n → 
  w.cell? ⟨g, k * 7, none⟩ = some (.string (xs.getD k z65).f0) ∧ w.cell? ⟨g, k * 7 + 1, none⟩ = some (.int .u8 (xs.getD k z65).f1.f0) ∧ w.cell? ⟨g, k * 7 + 2, none⟩ = some (.int .u8 (xs.getD k z65).f1.f1) ∧
  w.cell? ⟨g, k * 7 + 3, none⟩ = some (.int .u8 (xs.getD k z65).f1.f2) ∧ w.cell? ⟨g, k * 7 + 4, none⟩ = some (.int .u8 (xs.getD k z65).f1.f3) ∧ w.cell? ⟨g, k * 7 + 5, none⟩ = some (.int .i32 (xs.getD k z65).f1.f4) ∧ w.cell? ⟨g, k * 7 + 6, none⟩ = some (.string (xs.getD k z65).f2)
theorem LinesAt.of_C {w : World} {g n : Nat} {xs : List S65} (h : Kd.C k65 w (some ⟨g, 0, none⟩) n xs) : LinesAt w g n xs := by
  intro k hk
  obtain ⟨ad, e, h0, h1, h2, h3, h4, h5, h6⟩ := at_T65 h (k : Int) (by omega) (by omega)
  obtain rfl := Option.some.inj e
  simp only [rd_T65, Int.toNat_natCast, add_z, Nat.zero_add] at h0 h1 h2 h3 h4 h5 h6
  exact ⟨h0, h1, h2, h3, h4, h5, h6⟩
theorem LinesAt.below {w w' : World} {g n : Nat} {xs : List S65} (h : LinesAt w g n xs) (hb : Below w.heap.size w w') : LinesAt w' g n xs := by
  have hc : ∀ (o : Nat) v, w.cell? ⟨g, o, none⟩ = some v → w'.cell? ⟨g, o, none⟩ = some v := fun o v hv => (hb.cell (p := ⟨g, o, none⟩) (World.block_lt_of_cell? w _ hv)).trans hv
  intro k hk
  obtain ⟨h0, h1, h2, h3, h4, h5, h6⟩ := h k hk
  exact ⟨hc _ _ h0, hc _ _ h1, hc _ _ h2, hc _ _ h3, hc _ _ h4, hc _ _ h5, hc _ _ h6⟩
theorem LinesAt.grown {w w' : World} {g n b : Nat} {xs : List S65} (h : LinesAt w g n xs) (hg : w.grownBy w' (some b)) (hne : g ≠ b) : LinesAt w' g n xs := by
  have hc : ∀ (o : Nat) v, w.cell? ⟨g, o, none⟩ = some v → w'.cell? ⟨g, o, none⟩ = some v := fun o v hv => hg.cell hv (by simpa using hne)
  intro k hk
  obtain ⟨h0, h1, h2, h3, h4, h5, h6⟩ := h k hk
  exact ⟨hc _ _ h0, hc _ _ h1, hc _ _ h2, hc _ _ h3, hc _ _ h4, hc _ _ h5, hc _ _ h6⟩

theorem bytes_toList (b : ByteArray) : b.toList = b.data.toList := ByteArray.toList_eq b
/-- What names holds behind k lines. -/
def nameD : Nat → DataW Unit
  | 0 => .map []
  | k + 1 => if (theLines.getD k z65).f0.data.toList = [] then nameD k else (nameD k).put (.string (theLines.getD k z65).f0.data.toList) (.lit (.int .i64 k))
theorem law9 : Keyed Tryz.prog 9 := string_keyed Tryz.underlying9
theorem zero3 (w : World) : (zeroValue 3).run Tryz.prog w = .ok (.int .i64 0) w := by kernel_rfl
set_option maxRecDepth 100000 in
theorem names_ok : ∀ k, k < 173 → (theLines.getD k z65).f0.size ≤ 20 ∧ (theLines.getD k z65).f2.size ≤ 20 ∧ ((theLines.getD k z65).f0.data.toList ≠ [] → Maps.has (nameD k) (.string (theLines.getD k z65).f0.data.toList) = false) := by decide +kernel
set_option maxHeartbeats 400000 in
set_option maxRecDepth 100000 in
theorem names_calls (w : World) (g c : Nat) (hL : LinesAt w g 173 theLines) (hg : g < w.heap.size) : Calls Tryz.prog 100 #[.slice (some ⟨g, 0, none⟩) 173 c] w fun e w' => 
    e = .returned (.tuple #[.map (some w.heap.size), .nilIface]) ∧ w'.ownsMap Tryz.prog 9 (plainElem Tryz.prog 3) w.heap.size 173 (nameD 173) ∧ Below w.heap.size w w' := by
  have hmm := @run_makeMap Tryz.prog
  have HM := Aside0.mk (World.ownsMap_made (H := Unit) w Tryz.prog 9 (plainElem Tryz.prog 3))
  have HB := Aside0.mk (below_1 w (.map #[] 0))
  have HL := Aside0.mk (hL.below (below_1 w (.map #[] 0)))
  have HG := Aside0.mk hg
  clear hL hg
  go_enter Tryz.func100, Tryz.ntmps100
  go_wp2_with fail
  go_loopg [12] 173 (fun q v w' => ∃ k : Nat, v = .int .i64 k ∧ q + k = 173 ∧ Aside0 (LinesAt w' g 173 theLines) ∧ Aside0 (w'.ownsMap Tryz.prog 9 (plainElem (H := Unit) Tryz.prog 3) w.heap.size k (nameD k)) ∧ Aside0 (Below w.heap.size w w'))
  case atStart => exact ⟨0, rfl, rfl, HL, HM, HB⟩
  case round =>
    clear HL HM HB
    obtain ⟨k, rfl, hq0, HL, HM, HB⟩ := hrel
    have HQ := Aside0.mk hq0
    clear hq0
    by_cases hk : k < 173
    · have hd : decide ((k : Int) < 173) = true := decide_eq_true (by omega)
      obtain ⟨c0, c1, c2, c3, c4, c5, c6⟩ := HL.out k hk
      obtain ⟨o0, o2, o1⟩ := names_ok k hk
      have HN : Aside0 (nameD (k + 1) = if (theLines.getD k z65).f0.data.toList = [] then nameD k else (nameD k).put (.string (theLines.getD k z65).f0.data.toList) (.lit (.int .i64 k))) := ⟨rfl⟩
      have HO := Aside0.mk o1
      clear o1
      generalize theLines.getD k z65 = r at *
      have hB1 := below_1 wr (.cells #[.string r.f0, .int .u8 r.f1.f0, .int .u8 r.f1.f1, .int .u8 r.f1.f2, .int .u8 r.f1.f3, .int .i32 r.f1.f4, .string r.f2] 65 (0, 0))
      have HB1 := Aside0.mk hB1
      clear hB1
      by_cases he : r.f0.data.toList = []
      · have he' : r.f0.toList.isEmpty = true := by rw [bytes_toList, he]; rfl
        have hn := HN.out
        rw [if_pos he] at hn
        have HN1 := Aside0.mk hn
        clear hn he
        go_wp2_with fail
        go_roundg (172 - k)
        case measure => have := HQ.out; omega
        case rel => exact ⟨k + 1, by go_num, by have := HQ.out; omega, ⟨HL.out.below HB1.out⟩, ⟨HN1.out.symm ▸ (HM.out.alloc _).mono (by omega)⟩, ⟨below_step HB.out HB1.out⟩⟩
      · have he' : r.f0.toList.isEmpty = false := by rw [bytes_toList]; cases h : r.f0.data.toList <;> simp_all
        have hn := HN.out
        rw [if_neg he] at hn
        have HN1 := Aside0.mk hn
        have hh := HO.out he
        have hkey : keyOf Tryz.prog 9 (.string r.f0) = some (.string r.f0.data.toList) := Go.WideMaps.keyOf_string_mk Tryz.underlying9 (by unfold maxLen; omega)
        have hwk : (Lit.int .i64 (k : Int)).wf = true := by have h1 := wrap64_wf (k : Int); rwa [show wrap64 (k : Int) = k from by unfold wrap64; omega] at h1
        clear hn he
        go_wp2_with (first
          | (at_lookup; refine wpList_lookup_own_ok_int _ rfl _ _ 158 rfl 9 3 .i64 law9 Tryz.underlying158 Tryz.underlying3 (zero3 _) w.heap.size k (nameD k) rfl (HM.out.alloc _) _ _ rfl hkey ?_; intro cc hat hwc)
          | (at_mapUpdate; refine wpList_mapUpdate_own _ rfl _ _ _ 158 rfl 9 3 law9 Tryz.underlying158 _ w.heap.size k (nameD k) rfl (HM.out.alloc _) (by unfold maxLen; omega) _ _ _ rfl rfl hkey _ [] (plainElem_int Tryz.underlying3 (a := (k : Int)) (q := .i64) hwk) ?_; intro w1 hown1 hgrow1))
        go_roundg (172 - k)
        case measure => have := HQ.out; omega
        case rel => exact ⟨k + 1, by go_num, by have := HQ.out; omega, ⟨(HL.out.below HB1.out).grown hgrow1 (by have := HG.out; omega)⟩, ⟨HN1.out.symm ▸ hown1⟩, ⟨(below_step HB.out HB1.out).grown hgrow1 (by have := HB.out.size; simp; omega) (fun j hj => by cases hj; exact Nat.le_refl _)⟩⟩
    · have hd : decide ((k : Int) < 173) = false := decide_eq_false (by omega)
      obtain rfl : k = 173 := by have := HQ.out; omega
      go_wp2_with fail
      go_ret2
      exact ⟨rfl, HM.out, HB.out⟩
end Go.Proofs.YtfbmjfponkkaeaaGreatDoor.Num
