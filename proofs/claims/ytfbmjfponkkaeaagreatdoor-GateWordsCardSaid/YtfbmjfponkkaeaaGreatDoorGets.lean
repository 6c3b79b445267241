import Derived.Test.YtfbmjfponkkaeaaGreatDoorGetP
namespace Go.Proofs.YtfbmjfponkkaeaaGreatDoor.Num
open Go.Proofs.YtfbmjfponkkaeaaGreatDoor.Fam Go.RowKit Go.Proofs.YtfbmjfponkkaeaaGreatDoorW.PrintWords Go.Proofs.YtfbmjfponkkaeaaGreatDoor.Pr Go.Maps
set_option linter.unusedVariables false
set_option linter.unusedSimpArgs false
set_option maxRecDepth 100000 in
theorem gets_0 : ((theWords.drop 0).take 12).map (fun v => getIn v theTable) = ((theXs.drop 0).take 12).map some := by kernel_rfl
set_option maxRecDepth 100000 in
theorem gets_12 : ((theWords.drop 12).take 12).map (fun v => getIn v theTable) = ((theXs.drop 12).take 12).map some := by kernel_rfl
set_option maxRecDepth 100000 in
theorem gets_24 : ((theWords.drop 24).take 12).map (fun v => getIn v theTable) = ((theXs.drop 24).take 12).map some := by kernel_rfl
set_option maxRecDepth 100000 in
theorem gets_36 : ((theWords.drop 36).take 12).map (fun v => getIn v theTable) = ((theXs.drop 36).take 12).map some := by kernel_rfl
set_option maxRecDepth 100000 in
theorem gets_48 : ((theWords.drop 48).take 12).map (fun v => getIn v theTable) = ((theXs.drop 48).take 12).map some := by kernel_rfl
set_option maxRecDepth 100000 in
theorem gets_60 : ((theWords.drop 60).take 12).map (fun v => getIn v theTable) = ((theXs.drop 60).take 12).map some := by kernel_rfl
set_option maxRecDepth 100000 in
theorem gets_72 : ((theWords.drop 72).take 12).map (fun v => getIn v theTable) = ((theXs.drop 72).take 12).map some := by kernel_rfl
set_option maxRecDepth 100000 in
theorem gets_84 : ((theWords.drop 84).take 12).map (fun v => getIn v theTable) = ((theXs.drop 84).take 12).map some := by kernel_rfl
set_option maxRecDepth 100000 in
theorem gets_96 : ((theWords.drop 96).take 12).map (fun v => getIn v theTable) = ((theXs.drop 96).take 12).map some := by kernel_rfl
set_option maxRecDepth 100000 in
theorem gets_108 : ((theWords.drop 108).take 12).map (fun v => getIn v theTable) = ((theXs.drop 108).take 12).map some := by kernel_rfl
set_option maxRecDepth 100000 in
theorem gets_120 : ((theWords.drop 120).take 12).map (fun v => getIn v theTable) = ((theXs.drop 120).take 12).map some := by kernel_rfl
set_option maxRecDepth 100000 in
theorem gets_132 : ((theWords.drop 132).take 12).map (fun v => getIn v theTable) = ((theXs.drop 132).take 12).map some := by kernel_rfl
set_option maxRecDepth 100000 in
theorem gets_144 : ((theWords.drop 144).take 12).map (fun v => getIn v theTable) = ((theXs.drop 144).take 12).map some := by kernel_rfl
set_option maxRecDepth 100000 in
theorem gets_156 : ((theWords.drop 156).take 12).map (fun v => getIn v theTable) = ((theXs.drop 156).take 12).map some := by kernel_rfl
set_option maxRecDepth 100000 in
theorem gets_168 : ((theWords.drop 168).take 12).map (fun v => getIn v theTable) = ((theXs.drop 168).take 12).map some := by kernel_rfl
theorem chunk_at {c k : Nat} (h : ((theWords.drop c).take 12).map (fun v => getIn v theTable) = ((theXs.drop c).take 12).map some) (h1 : c ≤ k) (h2 : k < c + 12) : (theWords.map (fun v => getIn v theTable))[k]? = (theXs.map some)[k]? := by
  have h3 := congrArg (fun l => l[k - c]?) h
  simp only [List.getElem?_map, List.getElem?_take, List.getElem?_drop, if_pos (show k - c < 12 by omega), show c + (k - c) = k by omega] at h3
  rw [List.getElem?_map, List.getElem?_map]
  exact h3
theorem gets_map_at (k : Nat) (hk : k < 173) : (theWords.map (fun v => getIn v theTable))[k]? = (theXs.map some)[k]? := by
  by_cases h0 : k < 12
  · exact chunk_at gets_0 (by omega) h0
  by_cases h12 : k < 24
  · exact chunk_at gets_12 (by omega) h12
  by_cases h24 : k < 36
  · exact chunk_at gets_24 (by omega) h24
  by_cases h36 : k < 48
  · exact chunk_at gets_36 (by omega) h36
  by_cases h48 : k < 60
  · exact chunk_at gets_48 (by omega) h48
  by_cases h60 : k < 72
  · exact chunk_at gets_60 (by omega) h60
  by_cases h72 : k < 84
  · exact chunk_at gets_72 (by omega) h72
  by_cases h84 : k < 96
  · exact chunk_at gets_84 (by omega) h84
  by_cases h96 : k < 108
  · exact chunk_at gets_96 (by omega) h96
  by_cases h108 : k < 120
  · exact chunk_at gets_108 (by omega) h108
  by_cases h120 : k < 132
  · exact chunk_at gets_120 (by omega) h120
  by_cases h132 : k < 144
  · exact chunk_at gets_132 (by omega) h132
  by_cases h144 : k < 156
  · exact chunk_at gets_144 (by omega) h144
  by_cases h156 : k < 168
  · exact chunk_at gets_156 (by omega) h156
  by_cases h168 : k < 180
  · exact chunk_at gets_168 (by omega) h168
  omega
set_option maxRecDepth 100000 in
theorem words_in : ∀ k, k < 173 → 0 ≤ theWords.getD k 0 ∧ theWords.getD k 0 ≤ 4294967295 := by decide +kernel
theorem gets_at (k : Nat) (hk : k < 173) : getIn (theWords.getD k 0) theTable = some (theXs.getD k z63) := by
  have hl : theXs.length = 173 := by decide +kernel
  have hw : theWords.length = 173 := by decide +kernel
  have hk1 : k < theXs.length := by omega
  have hk2 : k < theWords.length := by omega
  have h := gets_map_at k hk
  rw [List.getElem?_map, List.getElem?_map, List.getElem?_eq_getElem hk1, List.getElem?_eq_getElem hk2] at h
  rw [List.getD_eq_getElem?_getD, List.getD_eq_getElem?_getD, List.getElem?_eq_getElem hk1, List.getElem?_eq_getElem hk2]
  exact Option.some.inj h
set_option maxRecDepth 100000 in
theorem jumps_in : ∀ k, k < 173 → ((theXs.getD k z63).f0 = 3 ∨ (5 ≤ (theXs.getD k z63).f0 ∧ (theXs.getD k z63).f0 ≤ 10)) → 0 ≤ 4 * (k : Int) + (theXs.getD k z63).f4 ∧ 4 * (k : Int) + (theXs.getD k z63).f4 < 692 := by decide +kernel
theorem last_is : theXs.getD 172 z63 = ⟨3, 0, 0, 0, (theXs.getD 172 z63).f4⟩ := by kernel_rfl
theorem word_cell {w : World} {base g c : Nat} (h : w.ownsRow base 23 1 (.slice (some ⟨g, 0, none⟩) 173 c) 173 (nums .u32 theWords)) (k : Nat) (hk : k < 173) : w.cell? ⟨g, k, none⟩ = some (.int .u32 (theWords.getD k 0)) := by
  have hw : theWords.length = 173 := by decide +kernel
  have hc := h.cells (g := g) rfl k (.int .u32 (theWords.getD k 0)) (by rw [nums, List.getElem?_map, List.getD_eq_getElem?_getD, List.getElem?_eq_getElem (by omega : k < theWords.length)]; rfl)
  rwa [add_z, Nat.zero_add] at hc
end Go.Proofs.YtfbmjfponkkaeaaGreatDoor.Num
