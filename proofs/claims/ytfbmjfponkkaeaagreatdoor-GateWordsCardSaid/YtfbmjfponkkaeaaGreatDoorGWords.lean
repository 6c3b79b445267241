import Derived.Test.YtfbmjfponkkaeaaGreatDoorAsmP
namespace Go.Proofs.YtfbmjfponkkaeaaGreatDoor.Num
open Go.RowKit Go.Proofs.YtfbmjfponkkaeaaGreatDoorW.PrintWords Go.Proofs.YtfbmjfponkkaeaaGreatDoor.Pr Go.Maps Go.Proofs.YtfbmjfponkkaeaaGreatDoor.Fam
set_option linter.unusedVariables false
set_option linter.unusedSimpArgs false
set_option maxHeartbeats 400000 in
set_option maxRecDepth 100000 in
theorem asm_Put_calls (w : World) (g c : Nat) (hL : LinesAt w g 173 theLines) (hg : g < w.heap.size) : Calls Tryz.prog 60 #[.int .u32 0, .slice (some ⟨g, 0, none⟩) 173 c] w fun e w' => ∃ g2 c2,
    e = .returned (.tuple #[.slice (some ⟨g2, 0, none⟩) 173 c2, .int .i64 0]) ∧ w'.ownsRow (w.heap.size + 1) 23 1 (.slice (some ⟨g2, 0, none⟩) 173 c2) 173 (nums .u32 theWords) ∧ Below w.heap.size w w' := by
  have HL := Aside0.mk hL
  have HG := Aside0.mk hg
  clear hL hg
  go_enter Tryz.func60, Tryz.ntmps60
  go_wp2_with fail
  refine (asm_put_calls w g c HL.out HG.out).mono ?_
  rintro e w1 ⟨g2, c2, rfl, hO, hB⟩
  have HO := Aside0.mk hO
  have HB := Aside0.mk hB
  clear hO hB
  go_wp2_with fail
  go_ret2
  exact ⟨g2, c2, rfl, HO.out, HB.out⟩
theorem ownsRow_base {w : World} {base b' n : Nat} {e : TypeId} {size : Nat} {v : Value} {xs : List Value} (h : w.ownsRow base e size v n xs) (hb : b' ≤ base) : w.ownsRow b' e size v n xs := by
  rcases h with ⟨h1, h2 | ⟨g, cap, cur, hv, hb2, r⟩⟩
  · exact ⟨h1, .inl h2⟩
  · exact ⟨h1, .inr ⟨g, cap, cur, hv, Nat.le_trans hb hb2, r⟩⟩
theorem lines_at {w w0 : World} {g c : Nat} (h : k65.R 65 w w0.heap.size (fun _ => True) (.slice (some ⟨g, 0, none⟩) 173 c) theLines) : LinesAt w g 173 theLines ∧ w0.heap.size ≤ g ∧ g < w.heap.size := by
  refine ⟨LinesAt.of_C (Kd.R_reads' h).2.2, ?_⟩
  obtain ⟨inner, ho⟩ := Kd.R_own h
  exact ho.lt g rfl
set_option maxHeartbeats 400000 in
set_option maxRecDepth 100000 in
theorem words_calls (w : World) (hE : Env w) : Calls Tryz.prog 25 #[] w fun e w' => ∃ g2 c2,
    e = .returned (.slice (some ⟨g2, 0, none⟩) 173 c2) ∧ w'.ownsRow w.heap.size 23 1 (.slice (some ⟨g2, 0, none⟩) 173 c2) 173 (nums .u32 theWords) ∧ Below w.heap.size w w' := by
  have HE := Aside0.mk hE
  clear hE
  go_enter Tryz.func25, Tryz.ntmps25
  go_wp2_with fail
  refine (lines_calls w HE.out).mono ?_
  rintro e w1 ⟨g, c, rfl, hR, hB⟩
  have HR := Aside0.mk hR
  have HB := Aside0.mk hB
  clear hR hB
  go_wp2_with fail
  refine (asm_Put_calls w1 g c (lines_at HR.out).1 (lines_at HR.out).2.2).mono ?_
  rintro e w2 ⟨g2, c2, rfl, hO, hB2⟩
  have HO := Aside0.mk (ownsRow_base hO (b' := w.heap.size) (by have := HB.out.size; omega))
  replace HB := Aside0.mk (below_step HB.out hB2)
  clear hO hB2
  go_wp2_with fail
  go_ret
  exact ⟨g2, c2, rfl, HO.out, HB.out⟩
set_option maxHeartbeats 400000 in
set_option maxRecDepth 100000 in
theorem size_calls (w : World) (hE : Env w) : Calls Tryz.prog 22 #[] w fun e w' => e = .returned (.int .i64 692) ∧ Below w.heap.size w w' := by
  have HE := Aside0.mk hE
  clear hE
  go_enter Tryz.func22, Tryz.ntmps22
  go_wp2_with fail
  refine (lines_calls w HE.out).mono ?_
  rintro e w1 ⟨g, c, rfl, hR, hB⟩
  have HB := Aside0.mk hB
  clear hR hB
  go_wp2_with fail
  go_ret
  exact ⟨rfl, HB.out⟩
/-! ### where a name stands -/
set_option maxHeartbeats 400000 in
set_option maxRecDepth 100000 in
theorem asm_Place_calls (w : World) (g c : Nat) (s : ByteArray) (n : Int) (hL : LinesAt w g 173 theLines) (hg : g < w.heap.size) (hs : s.size ≤ 1000000) (h1 : Maps.has (nameD 173) (.string s.data.toList) = true) (h2 : atOf s.data.toList = some n) (h3 : 0 ≤ n ∧ n ≤ 173) :
    Calls Tryz.prog 64 #[.int .u32 0, .slice (some ⟨g, 0, none⟩) 173 c, .string s] w fun e w' => e = .returned (.tuple #[.int .u32 (4 * n), .int .i64 0]) ∧ Below w.heap.size w w' := by
  have HL := Aside0.mk hL
  have HG := Aside0.mk hg
  have H2 := Aside0.mk h2
  clear hL hg h2
  have hkey : keyOf Tryz.prog 9 (.string s) = some (.string s.data.toList) := Go.WideMaps.keyOf_string_mk Tryz.underlying9 (by unfold maxLen; omega)
  go_enter Tryz.func64, Tryz.ntmps64
  go_wp2_with fail
  refine (names_calls w g c HL.out HG.out).mono ?_
  rintro e w1 ⟨rfl, hM, hB⟩
  have HM := Aside0.mk hM
  have HB := Aside0.mk hB
  clear hM hB
  go_wp2_with (first
    | (at_lookup; refine wpList_lookup_own_ok_int _ rfl _ _ 158 rfl 9 3 .i64 law9 Tryz.underlying158 Tryz.underlying3 (zero3 _) w.heap.size 173 (nameD 173) rfl HM.out _ _ rfl hkey ?_; intro cc hat hwc; have hcc : cc = n := (Option.some.inj ((atOf_of hat).symm.trans H2.out)); subst hcc; clear hat hwc))
  go_ret2
  exact ⟨rfl, HB.out⟩
end Go.Proofs.YtfbmjfponkkaeaaGreatDoor.Num
