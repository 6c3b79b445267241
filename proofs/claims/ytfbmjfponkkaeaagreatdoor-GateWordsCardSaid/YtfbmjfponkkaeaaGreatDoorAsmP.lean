import Derived.Test.YtfbmjfponkkaeaaGreatDoorPutW
namespace Go.Proofs.YtfbmjfponkkaeaaGreatDoor.Num
open Go.RowKit Go.Proofs.YtfbmjfponkkaeaaGreatDoorW.PrintWords Go.Proofs.YtfbmjfponkkaeaaGreatDoor.Pr Go.Maps Go.Proofs.YtfbmjfponkkaeaaGreatDoor.Fam
set_option linter.unusedVariables false
set_option linter.unusedSimpArgs false

def atOf (l : List UInt8) : Option Int := match (nameD 173).atKey (.string l) (.lit (.int .i64 0)) with
  | .lit (.int .i64 c) => some c
  | _ => none
theorem atOf_of {l : List UInt8} {c : Int} (h : (nameD 173).atKey (.string l) (.lit (.int .i64 0)) = .lit (.int .i64 c)) : atOf l = some c := by unfold atOf; rw [h]
set_option maxRecDepth 100000 in
theorem go1 : ∀ k, k < 173 → ((theLines.getD k z65).f2.data.toList ≠ [] → Maps.has (nameD 173) (.string (theLines.getD k z65).f2.data.toList) = true) := by decide +kernel
set_option maxRecDepth 100000 in
theorem go2 : ∀ k, k < 173 → (-10000 ≤ (theXs.getD k z63).f4 ∧ (theXs.getD k z63).f4 ≤ 10000) := by decide +kernel
set_option maxRecDepth 100000 in
theorem go3 : ∀ k, k < 173 → ((theLines.getD k z65).f2.data.toList ≠ [] → atOf (theLines.getD k z65).f2.data.toList = some ((theXs.getD k z63).f4 / 4 + k)) := by decide +kernel
set_option maxRecDepth 100000 in
theorem go4 : ∀ k, k < 173 → ((theLines.getD k z65).f2.data.toList ≠ [] → asm_leads.f (theLines.getD k z65).f1.f0 = some true ∧ (theXs.getD k z63).f4 / 4 * 4 = (theXs.getD k z63).f4) := by decide +kernel
set_option maxRecDepth 100000 in
theorem go5 : ∀ k, k < 173 → ((theLines.getD k z65).f2.data.toList = [] → (theXs.getD k z63).f4 = (theLines.getD k z65).f1.f4) := by decide +kernel
set_option maxRecDepth 100000 in
theorem go6 : ∀ k, k < 173 → ((theXs.getD k z63).f0 = (theLines.getD k z65).f1.f0 ∧ (theXs.getD k z63).f1 = (theLines.getD k z65).f1.f1 ∧ (theXs.getD k z63).f2 = (theLines.getD k z65).f1.f2 ∧ (theXs.getD k z63).f3 = (theLines.getD k z65).f1.f3) := by decide +kernel
set_option maxRecDepth 100000 in
theorem go7 : ∀ k, k < 173 → (theLines.getD k z65).f2.size ≤ 20 := by decide +kernel
theorem ne_empty {b : ByteArray} (h : b.data.toList ≠ []) : b.toList.isEmpty = false := by
  rw [bytes_toList]
  cases h2 : b.data.toList with
  | nil => exact (h h2).elim
  | cons => rfl
theorem LinesAt.belowB {w w' : World} {g n B : Nat} {xs : List S65} (h : LinesAt w g n xs) (hb : Below B w w') (hg : g < B) : LinesAt w' g n xs := by
  have hc : ∀ (o : Nat) v, w.cell? ⟨g, o, none⟩ = some v → w'.cell? ⟨g, o, none⟩ = some v := fun o v hv => (hb.cell (p := ⟨g, o, none⟩) hg).trans hv
  intro k hk
  obtain ⟨h0, h1, h2, h3, h4, h5, h6⟩ := h k hk
  exact ⟨hc _ _ h0, hc _ _ h1, hc _ _ h2, hc _ _ h3, hc _ _ h4, hc _ _ h5, hc _ _ h6⟩
theorem map_below {w w' : World} {b n : Nat} {D : DataW Unit} (h : w.ownsMap Tryz.prog 9 (plainElem Tryz.prog 3) b n D) (hb2 : Below w.heap.size w w') : w'.ownsMap Tryz.prog 9 (plainElem Tryz.prog 3) b n D :=
  h.kept (row := none) ⟨hb2.os, hb2.tape, hb2.output, hb2.size, fun k hk _ => hb2.block k hk⟩ (by simp)
theorem len_take (k : Nat) (hk : k < 173) : (theWords.take k).length = k := by
  have hw : theWords.length = 173 := by decide +kernel
  rw [List.length_take]; omega
theorem len_take' (k : Nat) (hk : k < 173) : (theWords.take (k + 1)).length = k + 1 := by
  have hw : theWords.length = 173 := by decide +kernel
  rw [List.length_take]; omega
theorem words_at (k : Nat) (hk : k < 173) : ∃ v, putPure (theXs.getD k z63) = some v ∧ theWords.take (k + 1) = theWords.take k ++ [v] := by
  have hl := congrArg List.length words_of
  rw [List.length_map, List.length_map] at hl
  have hw : theWords.length = 173 := by decide +kernel
  have hk1 : k < theXs.length := by omega
  have hk2 : k < theWords.length := by omega
  refine ⟨theWords[k], ?_, List.take_succ_eq_append_getElem hk2⟩
  have h : (theXs.map putPure)[k]? = (theWords.map some)[k]? := by rw [words_of]
  rw [List.getElem?_map, List.getElem?_map, List.getElem?_eq_getElem hk1, List.getElem?_eq_getElem hk2] at h
  rw [List.getD_eq_getElem?_getD, List.getElem?_eq_getElem hk1]
  exact Option.some.inj h
theorem made0 (w : World) (base : Nat) (hb : base ≤ w.heap.size) : ∃ w', (Instr.makeSlice 48 (.int .i64 0) (.int .i64 173)).run Tryz.prog w = .ok (.slice (some ⟨w.heap.size, 0, none⟩) 0 173) w' ∧ w'.ownsRow base 23 1 (.slice (some ⟨w.heap.size, 0, none⟩) 0 173) 0 [] ∧ Below w.heap.size w w' := by
  obtain ⟨i0, hi, hzz⟩ := Option.map_eq_some_iff.1 info23
  simp only [Prod.mk.injEq] at hzz
  obtain ⟨hz0, hz1, hz2⟩ := hzz
  obtain ⟨w', h1, h2, h3⟩ := run_make_own (P := Tryz.prog) w base 48 23 i0 (.int .u32 0) 1 Tryz.underlying48 hi hz0 hz1 .i64 .i64 173 (by rw [hz2]; decide) (by decide) hb
  exact ⟨w', h1, h2, ⟨h3.os, h3.tape, h3.output, h3.size, fun k hk => h3.block k hk (by simp)⟩⟩
set_option maxHeartbeats 1000000 in
set_option maxRecDepth 100000 in
theorem asm_put_calls (w : World) (g c : Nat) (hL : LinesAt w g 173 theLines) (hg : g < w.heap.size) : Calls Tryz.prog 94 #[.slice (some ⟨g, 0, none⟩) 173 c] w fun e w' => ∃ g2 c2,
    e = .returned (.tuple #[.slice (some ⟨g2, 0, none⟩) 173 c2, .nilIface]) ∧ w'.ownsRow (w.heap.size + 1) 23 1 (.slice (some ⟨g2, 0, none⟩) 173 c2) 173 (nums .u32 theWords) ∧ Below w.heap.size w w' := by
  have HL := Aside0.mk hL
  have HG := Aside0.mk hg
  clear hL hg
  go_enter Tryz.func94, Tryz.ntmps94
  go_wp2_with fail
  refine (names_calls w g c HL.out HG.out).mono ?_
  rintro e w1 ⟨rfl, hM, hB⟩
  replace HL := Aside0.mk (HL.out.below hB)
  have HM := Aside0.mk hM
  have HB := Aside0.mk hB
  clear hM hB
  go_wp2_with fail
  go_loopg [26] 173 (fun q v w' => ∃ k : Nat, v = .int .i64 k ∧ q + k = 173 ∧ Aside0 (LinesAt w' g 173 theLines) ∧ Aside0 (w'.ownsMap Tryz.prog 9 (plainElem (H := Unit) Tryz.prog 3) w.heap.size 173 (nameD 173)) ∧ Aside0 (Below w.heap.size w w'))
  case atStart => exact ⟨0, rfl, rfl, HL, HM, HB⟩
  case round =>
    clear HL HM HB w1
    obtain ⟨k, rfl, hq0, HL, HM, HB⟩ := hrel
    have HQ := Aside0.mk hq0
    clear hq0
    by_cases hk : k < 173
    · have hd : decide ((k : Int) < 173) = true := decide_eq_true (by omega)
      obtain ⟨c0, c1, c2, c3, c4, c5, c6⟩ := HL.out k hk
      have hz := go7 k hk
      have HH := Aside0.mk (go1 k hk)
      generalize theLines.getD k z65 = r at *
      have HB1 := Aside0.mk (below_1 wr (.cells #[.string r.f0, .int .u8 r.f1.f0, .int .u8 r.f1.f1, .int .u8 r.f1.f2, .int .u8 r.f1.f3, .int .i32 r.f1.f4, .string r.f2] 65 (0, 0)))
      have hkey : keyOf Tryz.prog 9 (.string r.f2) = some (.string r.f2.data.toList) := Go.WideMaps.keyOf_string_mk Tryz.underlying9 (by unfold maxLen; omega)
      by_cases he : r.f2.data.toList = []
      · have he' : r.f2.toList.isEmpty = true := by rw [bytes_toList, he]; rfl
        clear he
        go_wp2_with (first
          | (at_lookup; refine wpList_lookup_own_ok_int _ rfl _ _ 158 rfl 9 3 .i64 law9 Tryz.underlying158 Tryz.underlying3 (zero3 _) w.heap.size 173 (nameD 173) rfl (HM.out.alloc _) _ _ rfl hkey ?_; intro cc hat hwc))
        go_roundg (172 - k)
        case measure => have := HQ.out; omega
        case rel => exact ⟨k + 1, by go_num, by have := HQ.out; omega, ⟨HL.out.below HB1.out⟩, ⟨HM.out.alloc _⟩, ⟨below_step HB.out HB1.out⟩⟩
      · have he' : r.f2.toList.isEmpty = false := ne_empty he
        have hh := HH.out he
        clear he
        go_wp2_with (first
          | (at_lookup; refine wpList_lookup_own_ok_int _ rfl _ _ 158 rfl 9 3 .i64 law9 Tryz.underlying158 Tryz.underlying3 (zero3 _) w.heap.size 173 (nameD 173) rfl (HM.out.alloc _) _ _ rfl hkey ?_; intro cc hat hwc))
        go_roundg (172 - k)
        case measure => have := HQ.out; omega
        case rel => exact ⟨k + 1, by go_num, by have := HQ.out; omega, ⟨HL.out.below HB1.out⟩, ⟨HM.out.alloc _⟩, ⟨below_step HB.out HB1.out⟩⟩
    · have hd : decide ((k : Int) < 173) = false := decide_eq_false (by omega)
      obtain ⟨w2, hmk, hrow, hb2⟩ := made0 wr (w.heap.size + 1) HM.out.lt
      replace HL := Aside0.mk (HL.out.below hb2)
      replace HM := Aside0.mk (HM.out.kept (row := none) ⟨hb2.os, hb2.tape, hb2.output, hb2.size, fun k hk _ => hb2.block k hk⟩ (by simp))
      replace HB := Aside0.mk (below_step HB.out hb2)
      have HO := Aside0.mk hrow
      clear hb2 hrow
      go_wp2_with fail
      clear hmk hd hk HQ
      go_loopg [10, 55] 173 (fun q v v55 w' => ∃ k : Nat, v55 = .int .i64 k ∧ q + k = 173 ∧ Aside0 (LinesAt w' g 173 theLines) ∧ Aside0 (w'.ownsMap Tryz.prog 9 (plainElem (H := Unit) Tryz.prog 3) w.heap.size 173 (nameD 173)) ∧ Aside0 (Below w.heap.size w w') ∧ Aside0 (w'.ownsRow (w.heap.size + 1) 23 1 v k (nums .u32 (theWords.take k))))
      case atStart => exact ⟨0, rfl, rfl, HL, HM, HB, HO⟩
      case round =>
        clear HL HM HB HO
        obtain ⟨k, rfl, hq0, HL, HM, HB, HO⟩ := hrel
        have HQ := Aside0.mk hq0
        clear hq0
        by_cases hk : k < 173
        · have hd : decide ((k : Int) < 173) = true := decide_eq_true (by omega)
          obtain ⟨c0, c1, c2, c3, c4, c5, c6⟩ := HL.out k hk
          have hz := go7 k hk
          have H2 := Aside0.mk (go2 k hk)
          have H3 := Aside0.mk (go3 k hk)
          have H4 := Aside0.mk (go4 k hk)
          have H5 := Aside0.mk (go5 k hk)
          have H6 := Aside0.mk (go6 k hk)
          obtain ⟨wv, hw1, hw2⟩ := words_at k hk
          have HW1 := Aside0.mk hw1
          have HW2 := Aside0.mk hw2
          clear hw1 hw2
          generalize theLines.getD k z65 = r at *
          generalize theXs.getD k z63 = x at *
          have HB1 := Aside0.mk (below_1 wr (.cells #[.string r.f0, .int .u8 r.f1.f0, .int .u8 r.f1.f1, .int .u8 r.f1.f2, .int .u8 r.f1.f3, .int .i32 r.f1.f4, .string r.f2] 65 (0, 0)))
          have hkey : keyOf Tryz.prog 9 (.string r.f2) = some (.string r.f2.data.toList) := Go.WideMaps.keyOf_string_mk Tryz.underlying9 (by unfold maxLen; omega)
          by_cases he : r.f2.data.toList = []
          · have he' : r.f2.toList.isEmpty = true := by rw [bytes_toList, he]; rfl
            have h5 := H5.out he
            obtain ⟨e0, e1, e2, e3⟩ := H6.out
            have hp := fun W => put_calls x wv HW1.out W
            rw [e0, e1, e2, e3, h5] at hp
            have HP := Aside0.mk hp
            clear hp e0 e1 e2 e3 h5
            go_wp2_with fail
            refine (HP.out _).mono ?_
            rintro e y ⟨rfl, hb⟩
            have HY := Aside0.mk (below_step HB1.out hb)
            clear hb
            replace HL := Aside0.mk (HL.out.below HY.out)
            replace HM := Aside0.mk (map_below HM.out HY.out)
            replace HB := Aside0.mk (below_step HB.out HY.out)
            replace HO := Aside0.mk (own_below HO.out HY.out)
            go_wp2_with (first | ((with_reducible refine gate_builtin (b := .append) (xs := #[.tmp 103, .tmp 105]) rfl ?_); at_builtin; refine print_append_num (w0 := y) (w.heap.size + 1) rfl (.tmp 103) (.tmp 105) 48 23 .u32 4 rfl Tryz.underlying48 info23 (by decide) u10 (theWords.take k) wv rfl rfl (by rw [len_take k hk]; exact HO.out) (Below.refl _ _) HM.out.lt (by rw [len_take k hk]; omega) ?_; intro v1 w5 hown hB hg hat2; rw [← HW2.out, len_take' k hk] at hown; have HO1 := Aside0.mk hown; have HL1 := Aside0.mk (HL.out.belowB hB (by have := HG.out; omega)); have HM1 := Aside0.mk (HM.out.kept hg (fun e_ => by have := (HO.out.lt _ e_.symm).1; omega)); have HB2 := Aside0.mk (HB.out.trans (blw_leA hB (by omega))); clear hown hB hg hat2))
            go_roundg (172 - k)
            case measure => have := HQ.out; omega
            case rel => exact ⟨k + 1, by go_num, by have := HQ.out; omega, HL1, HM1, HB2, HO1⟩
          · have he' : r.f2.toList.isEmpty = false := ne_empty he
            have h3 := H3.out he
            obtain ⟨h4, h4'⟩ := H4.out he
            have BX := Aside0.mk (blk_new wr (.cells #[.string r.f0, .int .u8 r.f1.f0, .int .u8 r.f1.f1, .int .u8 r.f1.f2, .int .u8 r.f1.f3, .int .i32 r.f1.f4, .string r.f2] 65 (0, 0)))
            obtain ⟨b1, b2⟩ := H2.out
            obtain ⟨e0, e1, e2, e3⟩ := H6.out
            have hp := fun W => put_calls x wv HW1.out W
            rw [e0, e1, e2, e3] at hp
            have HP := Aside0.mk hp
            have HA := Aside0.mk h4
            clear hp e0 e1 e2 e3 h4
            go_wp2_with (first
              | (at_lookup; refine wpList_lookup_own_int _ rfl _ _ 158 rfl 9 3 .i64 law9 Tryz.underlying158 Tryz.underlying3 (zero3 _) w.heap.size 173 (nameD 173) rfl (HM.out.alloc _) _ _ rfl hkey ?_; intro cc hat hwc; have hwr : wrap64 (4 * wrap64 (cc - (k : Int))) = x.f4 := (by have h7 := Option.some.inj ((atOf_of hat).symm.trans h3); have h8 := H2.out; subst h7; unfold wrap64; omega); clear hat hwc))
            refine (asm_leads.calls _ true _ HA.out).mono ?_
            rintro e w3 ⟨rfl, hdr⟩
            obtain ⟨n, hn⟩ := hdr.out
            replace BX := Aside0.mk (hn ▸ blk_drewN BX.out n)
            replace HB1 : Aside0 (Below wr.heap.size wr w3) := ⟨by rw [hn]; exact pw_below_drewN HB1.out n⟩
            clear hn hdr
            have l1 := blk_cell BX.out 1
            have l2 := blk_cell BX.out 2
            have l3 := blk_cell BX.out 3
            have l4 := blk_cell BX.out 4
            have l5 := blk_cell BX.out 5
            have f5 := blk_frozen BX.out 5
            simp only [List.getElem?_toArray, List.getElem?_cons_zero, List.getElem?_cons_succ] at l1 l2 l3 l4 l5
            rw [hwr]
            go_wp2_with fail
            refine (HP.out _).mono ?_
            rintro e y ⟨rfl, hb⟩
            have HY := Aside0.mk (below_step (below_set HB1.out (g := wr.heap.size) (j := 5) (v := .int .i32 x.f4) (Nat.le_refl _)) hb)
            clear hb
            replace HL := Aside0.mk (HL.out.below HY.out)
            replace HM := Aside0.mk (map_below HM.out HY.out)
            replace HB := Aside0.mk (below_step HB.out HY.out)
            replace HO := Aside0.mk (own_below HO.out HY.out)
            go_wp2_with (first | ((with_reducible refine gate_builtin (b := .append) (xs := #[.tmp 103, .tmp 105]) rfl ?_); at_builtin; refine print_append_num (w0 := y) (w.heap.size + 1) rfl (.tmp 103) (.tmp 105) 48 23 .u32 4 rfl Tryz.underlying48 info23 (by decide) u10 (theWords.take k) wv rfl rfl (by rw [len_take k hk]; exact HO.out) (Below.refl _ _) HM.out.lt (by rw [len_take k hk]; omega) ?_; intro v1 w5 hown hB hg hat2; rw [← HW2.out, len_take' k hk] at hown; have HO1 := Aside0.mk hown; have HL1 := Aside0.mk (HL.out.belowB hB (by have := HG.out; omega)); have HM1 := Aside0.mk (HM.out.kept hg (fun e_ => by have := (HO.out.lt _ e_.symm).1; omega)); have HB2 := Aside0.mk (HB.out.trans (blw_leA hB (by omega))); clear hown hB hg hat2))
            go_roundg (172 - k)
            case measure => have := HQ.out; omega
            case rel => exact ⟨k + 1, by go_num, by have := HQ.out; omega, HL1, HM1, HB2, HO1⟩
        · have hd : decide ((k : Int) < 173) = false := decide_eq_false (by omega)
          obtain rfl : k = 173 := by have := HQ.out; omega
          obtain ⟨g2, c2, rfl, hbg⟩ := own_shape HO.out (by decide)
          have HO1 : Aside0 (wr.ownsRow (w.heap.size + 1) 23 1 (.slice (some ⟨g2, 0, none⟩) 173 c2) 173 (nums .u32 theWords)) := ⟨HO.out⟩
          clear HO
          go_wp2_with fail
          go_ret2
          exact ⟨g2, c2, rfl, HO1.out, HB.out⟩
end Go.Proofs.YtfbmjfponkkaeaaGreatDoor.Num
