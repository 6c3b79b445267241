import Derived.Test.YtfbmjfponkkaeaaGreatDoorPlace
namespace Go.Proofs.YtfbmjfponkkaeaaGreatDoor.Num
open Go.RowKit Go.Proofs.YtfbmjfponkkaeaaGreatDoorW.PrintWords Go.Proofs.YtfbmjfponkkaeaaGreatDoor.Pr Go.Maps Go.Proofs.YtfbmjfponkkaeaaGreatDoor.Fam
set_option linter.unusedVariables false
set_option linter.unusedSimpArgs false
def sEnter : ByteArray := ⟨#[101, 110, 116, 101, 114]⟩
def sNowhere : ByteArray := ⟨#[110, 111, 119, 104, 101, 114, 101]⟩
set_option maxRecDepth 100000 in
theorem enter_first : firstAt sEnter 0 = 0 := by kernel_rfl
set_option maxRecDepth 100000 in
theorem enter_has : Maps.has (nameD 173) (.string sEnter.data.toList) = true := by kernel_rfl
set_option maxRecDepth 100000 in
theorem enter_at : atOf sEnter.data.toList = some 0 := by kernel_rfl
set_option maxRecDepth 100000 in
theorem nowhere_first : firstAt sNowhere 0 = -1 := by kernel_rfl
theorem place_enter (w : World) (hE : Env w) : Calls Tryz.prog 27 #[.string ⟨#[101, 110, 116, 101, 114]⟩] w fun e w' => e = .returned (.tuple #[.int .u32 0, .int .i64 0]) ∧ Below w.heap.size w w' :=
  place_calls w sEnter 0 hE (by rw [enter_first]; decide) (by decide) enter_has enter_at (by decide)
theorem place_nowhere (w : World) (hE : Env w) : Calls Tryz.prog 27 #[.string ⟨#[110, 111, 119, 104, 101, 114, 101]⟩] w fun e w' => e = .returned (.tuple #[.int .u32 0, .int .i64 6]) ∧ Below w.heap.size w w' :=
  place_none w sNowhere hE nowhere_first
theorem line_first : theLines.getD 0 z65 = ⟨⟨#[101, 110, 116, 101, 114]⟩, ⟨61, 4, 1, 0, 0⟩, ⟨#[]⟩⟩ := by kernel_rfl
set_option maxHeartbeats 1000000 in
set_option maxRecDepth 100000 in
theorem works_calls (w : World) (hE : Env w) : Calls Tryz.prog 16 #[] w fun e w' => e = .returned (.bool true) ∧ Below w.heap.size w w' := by
  have HE := Aside0.mk hE
  have hu63 := Tryz.underlying63
  clear hE
  go_enter Tryz.func16, Tryz.ntmps16
  go_wp2_with fail
  refine (place_enter w HE.out).mono ?_
  rintro e w1 ⟨rfl, hB⟩
  have HB := Aside0.mk hB
  clear hB
  go_wp2_with fail
  refine (lines_calls w1 (HE.out.below HB.out)).mono ?_
  rintro e w2 ⟨g, c, rfl, hR, hB⟩
  have HL := Aside0.mk (lines_at hR).1
  replace HB := Aside0.mk (below_step HB.out hB)
  clear hR hB
  go_wp2_with fail
  refine (place_nowhere w2 (HE.out.below HB.out)).mono ?_
  rintro e w3 ⟨rfl, hB⟩
  replace HL := Aside0.mk (HL.out.below hB)
  replace HB := Aside0.mk (below_step HB.out hB)
  clear hB
  obtain ⟨c0, c1, c2, c3, c4, c5, c6⟩ := HL.out 0 (by decide)
  rw [line_first] at c0 c1 c2 c3 c4 c5 c6
  go_wp2_with fail
  go_ret
  exact ⟨rfl, HB.out⟩
end Go.Proofs.YtfbmjfponkkaeaaGreatDoor.Num
