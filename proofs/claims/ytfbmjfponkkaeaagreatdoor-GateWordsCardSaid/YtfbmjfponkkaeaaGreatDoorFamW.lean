/- instr.families walked: what it hands back. (The walk's rows are printed by genfam.py out of the function's operations.) -/
import Derived.Test.YtfbmjfponkkaeaaGreatDoorFam
set_option linter.unusedSimpArgs false
namespace Go.Proofs.YtfbmjfponkkaeaaGreatDoor.Fam
open Go.RowKit Go.Proofs.YtfbmjfponkkaeaaGreatDoorW.PrintWords Go.Proofs.YtfbmjfponkkaeaaGreatDoor.Pr
set_option linter.unusedVariables false
set_option linter.unusedSimpArgs false
def theFams : List Fam := [⟨1, 152, [(⟨#[108, 117, 105]⟩ : ByteArray), (⟨#[97, 117, 105, 112, 99, 99]⟩ : ByteArray)], [55, 23]⟩, ⟨3, 153, [(⟨#[99, 106, 97, 108]⟩ : ByteArray)], [111]⟩, ⟨4, 154, [(⟨#[99, 106, 97, 108, 114]⟩ : ByteArray)], [103]⟩, ⟨5, 155, [(⟨#[98, 101, 113]⟩ : ByteArray), (⟨#[98, 110, 101]⟩ : ByteArray), (⟨#[98, 108, 116]⟩ : ByteArray), (⟨#[98, 103, 101]⟩ : ByteArray), (⟨#[98, 108, 116, 117]⟩ : ByteArray), (⟨#[98, 103, 101, 117]⟩ : ByteArray)], [99, 4195, 16483, 20579, 24675, 28771]⟩, ⟨11, 154, [(⟨#[108, 98]⟩ : ByteArray), (⟨#[108, 104]⟩ : ByteArray), (⟨#[108, 119]⟩ : ByteArray), (⟨#[99, 108, 99]⟩ : ByteArray), (⟨#[108, 98, 117]⟩ : ByteArray), (⟨#[108, 104, 117]⟩ : ByteArray)], [3, 4099, 8195, 12291, 16387, 20483]⟩, ⟨17, 157, [(⟨#[115, 98]⟩ : ByteArray), (⟨#[115, 104]⟩ : ByteArray), (⟨#[115, 119]⟩ : ByteArray), (⟨#[99, 115, 99]⟩ : ByteArray)], [35, 4131, 8227, 12323]⟩, ⟨21, 154, [(⟨#[97, 100, 100, 105]⟩ : ByteArray), (⟨#[115, 108, 116, 105]⟩ : ByteArray), (⟨#[115, 108, 116, 105, 117]⟩ : ByteArray), (⟨#[120, 111, 114, 105]⟩ : ByteArray), (⟨#[111, 114, 105]⟩ : ByteArray), (⟨#[97, 110, 100, 105]⟩ : ByteArray)], [19, 8211, 12307, 16403, 24595, 28691]⟩, ⟨27, 158, [(⟨#[115, 108, 108, 105]⟩ : ByteArray), (⟨#[115, 114, 108, 105]⟩ : ByteArray), (⟨#[115, 114, 97, 105]⟩ : ByteArray)], [4115, 20499, 1073762323]⟩, ⟨30, 160, [(⟨#[97, 100, 100]⟩ : ByteArray), (⟨#[115, 117, 98]⟩ : ByteArray), (⟨#[115, 108, 108]⟩ : ByteArray), (⟨#[115, 108, 116]⟩ : ByteArray), (⟨#[115, 108, 116, 117]⟩ : ByteArray), (⟨#[120, 111, 114]⟩ : ByteArray), (⟨#[115, 114, 108]⟩ : ByteArray), (⟨#[115, 114, 97]⟩ : ByteArray), (⟨#[111, 114]⟩ : ByteArray), (⟨#[97, 110, 100]⟩ : ByteArray)], [51, 1073741875, 4147, 8243, 12339, 16435, 20531, 1073762355, 24627, 28723]⟩, ⟨40, 160, [(⟨#[109, 117, 108]⟩ : ByteArray), (⟨#[109, 117, 108, 104]⟩ : ByteArray), (⟨#[109, 117, 108, 104, 115, 117]⟩ : ByteArray), (⟨#[109, 117, 108, 104, 117]⟩ : ByteArray), (⟨#[100, 105, 118]⟩ : ByteArray), (⟨#[100, 105, 118, 117]⟩ : ByteArray), (⟨#[114, 101, 109]⟩ : ByteArray), (⟨#[114, 101, 109, 117]⟩ : ByteArray)], [33554483, 33558579, 33562675, 33566771, 33570867, 33574963, 33579059, 33583155]⟩, ⟨48, 154, [(⟨#[99, 46, 105, 110, 99, 97, 100, 100, 114, 105, 109, 109]⟩ : ByteArray)], [4187]⟩, ⟨49, 161, [(⟨#[99, 46, 115, 101, 116, 98, 111, 117, 110, 100, 115, 105, 109, 109]⟩ : ByteArray)], [8283]⟩, ⟨50, 160, [(⟨#[99, 46, 115, 101, 116, 98, 111, 117, 110, 100, 115]⟩ : ByteArray), (⟨#[99, 46, 115, 101, 97, 108]⟩ : ByteArray)], [268435547, 369098843]⟩, ⟨52, 162, [(⟨#[99, 46, 117, 110, 115, 101, 97, 108]⟩ : ByteArray)], [402653275]⟩, ⟨53, 160, [(⟨#[99, 46, 97, 110, 100, 112, 101, 114, 109]⟩ : ByteArray), (⟨#[99, 46, 115, 101, 116, 97, 100, 100, 114]⟩ : ByteArray), (⟨#[99, 46, 105, 110, 99, 97, 100, 100, 114]⟩ : ByteArray), (⟨#[99, 46, 116, 101, 115, 116, 115, 117, 98, 115, 101, 116]⟩ : ByteArray)], [436207707, 536871003, 570425435, 1073741915]⟩, ⟨57, 162, [(⟨#[99, 46, 103, 101, 116, 112, 101, 114, 109]⟩ : ByteArray), (⟨#[99, 46, 103, 101, 116, 116, 121, 112, 101]⟩ : ByteArray), (⟨#[99, 46, 103, 101, 116, 98, 97, 115, 101]⟩ : ByteArray), (⟨#[99, 46, 103, 101, 116, 108, 101, 110]⟩ : ByteArray), (⟨#[99, 46, 103, 101, 116, 116, 97, 103]⟩ : ByteArray), (⟨#[99, 46, 109, 111, 118, 101]⟩ : ByteArray), (⟨#[99, 46, 99, 108, 101, 97, 114, 116, 97, 103]⟩ : ByteArray), (⟨#[99, 46, 103, 101, 116, 97, 100, 100, 114]⟩ : ByteArray), (⟨#[99, 46, 115, 101, 110, 116, 114, 121]⟩ : ByteArray)], [4261412955, 4262461531, 4263510107, 4264558683, 4265607259, 4271898715, 4272947291, 4277141595, 4279238747]⟩, ⟨66, 158, [(⟨#[99, 46, 115, 112, 101, 99, 105, 97, 108, 114, 119]⟩ : ByteArray)], [33554523]⟩, ⟨67, 164, [(⟨#[101, 99, 97, 108, 108]⟩ : ByteArray), (⟨#[109, 114, 101, 116]⟩ : ByteArray)], [115, 807403635]⟩]
set_option maxHeartbeats 8000000 in
set_option maxRecDepth 100000 in
theorem families_calls (w0 : World) : Calls Tryz.prog 134 #[] w0 fun e w' => ∃ A c, e = .returned (.slice A 18 c) ∧ kFam.R 194 w' w0.heap.size (fun _ => True) (.slice A 18 c) theFams ∧ Below w0.heap.size w0 w' := by
  have HF := Aside0.mk (St.nil w0)
  go_enter Tryz.func134, Tryz.ntmps134
  replace HF := Aside0.mk (St.two HF.out 1 152 [(⟨#[108, 117, 105]⟩ : ByteArray), (⟨#[97, 117, 105, 112, 99, 99]⟩ : ByteArray)] [55, 23] (N := w0.heap.size) (M := w0.heap.size + 1) (by simp [World.size_alloc]) (by simp [World.size_alloc]) (by decide) (by decide))
  replace HF := Aside0.mk (St.two HF.out 3 153 [(⟨#[99, 106, 97, 108]⟩ : ByteArray)] [111] (N := w0.heap.size + 1 + 1) (M := w0.heap.size + 1 + 1 + 1) (by simp [World.size_alloc]) (by simp [World.size_alloc]) (by decide) (by decide))
  replace HF := Aside0.mk (St.two HF.out 4 154 [(⟨#[99, 106, 97, 108, 114]⟩ : ByteArray)] [103] (N := w0.heap.size + 1 + 1 + 1 + 1) (M := w0.heap.size + 1 + 1 + 1 + 1 + 1) (by simp [World.size_alloc]) (by simp [World.size_alloc]) (by decide) (by decide))
  go_wp2_with fail
  refine (St.f3 HF.out 5 155 [(⟨#[98, 101, 113]⟩ : ByteArray), (⟨#[98, 110, 101]⟩ : ByteArray), (⟨#[98, 108, 116]⟩ : ByteArray), (⟨#[98, 103, 101]⟩ : ByteArray), (⟨#[98, 108, 116, 117]⟩ : ByteArray), (⟨#[98, 103, 101, 117]⟩ : ByteArray)] 99 [0, 1, 4, 5, 6, 7] [99, 4195, 16483, 20579, 24675, 28771] (N := w0.heap.size + 1 + 1 + 1 + 1 + 1 + 1) (M := w0.heap.size + 1 + 1 + 1 + 1 + 1 + 1 + 1) (by simp [World.size_alloc]) (by simp [World.size_alloc]) (by decide) (by decide) (by decide +kernel)).mono ?_
  clear HF
  rintro e w3 ⟨B3, d3, rfl, HF0⟩
  have HF := Aside0.mk HF0
  clear HF0
  go_wp2_with fail
  refine (St.f3 HF.out 11 154 [(⟨#[108, 98]⟩ : ByteArray), (⟨#[108, 104]⟩ : ByteArray), (⟨#[108, 119]⟩ : ByteArray), (⟨#[99, 108, 99]⟩ : ByteArray), (⟨#[108, 98, 117]⟩ : ByteArray), (⟨#[108, 104, 117]⟩ : ByteArray)] 3 [0, 1, 2, 3, 4, 5] [3, 4099, 8195, 12291, 16387, 20483] (N := w3.heap.size) (M := w3.heap.size + 1) (by simp [World.size_alloc]) (by simp [World.size_alloc]) (by decide) (by decide) (by decide +kernel)).mono ?_
  clear HF
  rintro e w4 ⟨B4, d4, rfl, HF0⟩
  have HF := Aside0.mk HF0
  clear HF0
  go_wp2_with fail
  refine (St.f3 HF.out 17 157 [(⟨#[115, 98]⟩ : ByteArray), (⟨#[115, 104]⟩ : ByteArray), (⟨#[115, 119]⟩ : ByteArray), (⟨#[99, 115, 99]⟩ : ByteArray)] 35 [0, 1, 2, 3] [35, 4131, 8227, 12323] (N := w4.heap.size) (M := w4.heap.size + 1) (by simp [World.size_alloc]) (by simp [World.size_alloc]) (by decide) (by decide) (by decide +kernel)).mono ?_
  clear HF
  rintro e w5 ⟨B5, d5, rfl, HF0⟩
  have HF := Aside0.mk HF0
  clear HF0
  go_wp2_with fail
  refine (St.f3 HF.out 21 154 [(⟨#[97, 100, 100, 105]⟩ : ByteArray), (⟨#[115, 108, 116, 105]⟩ : ByteArray), (⟨#[115, 108, 116, 105, 117]⟩ : ByteArray), (⟨#[120, 111, 114, 105]⟩ : ByteArray), (⟨#[111, 114, 105]⟩ : ByteArray), (⟨#[97, 110, 100, 105]⟩ : ByteArray)] 19 [0, 2, 3, 4, 6, 7] [19, 8211, 12307, 16403, 24595, 28691] (N := w5.heap.size) (M := w5.heap.size + 1) (by simp [World.size_alloc]) (by simp [World.size_alloc]) (by decide) (by decide) (by decide +kernel)).mono ?_
  clear HF
  rintro e w6 ⟨B6, d6, rfl, HF0⟩
  have HF := Aside0.mk HF0
  clear HF0
  go_wp2_with fail
  refine (St.f7 HF.out 27 158 [(⟨#[115, 108, 108, 105]⟩ : ByteArray), (⟨#[115, 114, 108, 105]⟩ : ByteArray), (⟨#[115, 114, 97, 105]⟩ : ByteArray)] 19 [1, 0, 5, 0, 5, 32] [4115, 20499, 1073762323] (N := w6.heap.size) (M := w6.heap.size + 1) (by simp [World.size_alloc]) (by simp [World.size_alloc]) (by decide) (by decide) (by decide +kernel)).mono ?_
  clear HF
  rintro e w7 ⟨B7, d7, rfl, HF0⟩
  have HF := Aside0.mk HF0
  clear HF0
  go_wp2_with fail
  refine (St.f7 HF.out 30 160 [(⟨#[97, 100, 100]⟩ : ByteArray), (⟨#[115, 117, 98]⟩ : ByteArray), (⟨#[115, 108, 108]⟩ : ByteArray), (⟨#[115, 108, 116]⟩ : ByteArray), (⟨#[115, 108, 116, 117]⟩ : ByteArray), (⟨#[120, 111, 114]⟩ : ByteArray), (⟨#[115, 114, 108]⟩ : ByteArray), (⟨#[115, 114, 97]⟩ : ByteArray), (⟨#[111, 114]⟩ : ByteArray), (⟨#[97, 110, 100]⟩ : ByteArray)] 51 [0, 0, 0, 32, 1, 0, 2, 0, 3, 0, 4, 0, 5, 0, 5, 32, 6, 0, 7, 0] [51, 1073741875, 4147, 8243, 12339, 16435, 20531, 1073762355, 24627, 28723] (N := w7.heap.size) (M := w7.heap.size + 1) (by simp [World.size_alloc]) (by simp [World.size_alloc]) (by decide) (by decide) (by decide +kernel)).mono ?_
  clear HF
  rintro e w8 ⟨B8, d8, rfl, HF0⟩
  have HF := Aside0.mk HF0
  clear HF0
  go_wp2_with fail
  refine (St.f7 HF.out 40 160 [(⟨#[109, 117, 108]⟩ : ByteArray), (⟨#[109, 117, 108, 104]⟩ : ByteArray), (⟨#[109, 117, 108, 104, 115, 117]⟩ : ByteArray), (⟨#[109, 117, 108, 104, 117]⟩ : ByteArray), (⟨#[100, 105, 118]⟩ : ByteArray), (⟨#[100, 105, 118, 117]⟩ : ByteArray), (⟨#[114, 101, 109]⟩ : ByteArray), (⟨#[114, 101, 109, 117]⟩ : ByteArray)] 51 [0, 1, 1, 1, 2, 1, 3, 1, 4, 1, 5, 1, 6, 1, 7, 1] [33554483, 33558579, 33562675, 33566771, 33570867, 33574963, 33579059, 33583155] (N := w8.heap.size) (M := w8.heap.size + 1) (by simp [World.size_alloc]) (by simp [World.size_alloc]) (by decide) (by decide) (by decide +kernel)).mono ?_
  clear HF
  rintro e w9 ⟨B9, d9, rfl, HF0⟩
  have HF := Aside0.mk HF0
  clear HF0
  go_wp2_with fail
  refine (St.f3 HF.out 48 154 [(⟨#[99, 46, 105, 110, 99, 97, 100, 100, 114, 105, 109, 109]⟩ : ByteArray)] 91 [1] [4187] (N := w9.heap.size) (M := w9.heap.size + 1) (by simp [World.size_alloc]) (by simp [World.size_alloc]) (by decide) (by decide) (by decide +kernel)).mono ?_
  clear HF
  rintro e w10 ⟨B10, d10, rfl, HF0⟩
  have HF := Aside0.mk HF0
  clear HF0
  go_wp2_with fail
  refine (St.f3 HF.out 49 161 [(⟨#[99, 46, 115, 101, 116, 98, 111, 117, 110, 100, 115, 105, 109, 109]⟩ : ByteArray)] 91 [2] [8283] (N := w10.heap.size) (M := w10.heap.size + 1) (by simp [World.size_alloc]) (by simp [World.size_alloc]) (by decide) (by decide) (by decide +kernel)).mono ?_
  clear HF
  rintro e w11 ⟨B11, d11, rfl, HF0⟩
  have HF := Aside0.mk HF0
  clear HF0
  go_wp2_with fail
  refine (St.f7 HF.out 50 160 [(⟨#[99, 46, 115, 101, 116, 98, 111, 117, 110, 100, 115]⟩ : ByteArray), (⟨#[99, 46, 115, 101, 97, 108]⟩ : ByteArray)] 91 [0, 8, 0, 11] [268435547, 369098843] (N := w11.heap.size) (M := w11.heap.size + 1) (by simp [World.size_alloc]) (by simp [World.size_alloc]) (by decide) (by decide) (by decide +kernel)).mono ?_
  clear HF
  rintro e w12 ⟨B12, d12, rfl, HF0⟩
  have HF := Aside0.mk HF0
  clear HF0
  go_wp2_with fail
  refine (St.f7 HF.out 52 162 [(⟨#[99, 46, 117, 110, 115, 101, 97, 108]⟩ : ByteArray)] 91 [0, 12] [402653275] (N := w12.heap.size) (M := w12.heap.size + 1) (by simp [World.size_alloc]) (by simp [World.size_alloc]) (by decide) (by decide) (by decide +kernel)).mono ?_
  clear HF
  rintro e w13 ⟨B13, d13, rfl, HF0⟩
  have HF := Aside0.mk HF0
  clear HF0
  go_wp2_with fail
  refine (St.f7 HF.out 53 160 [(⟨#[99, 46, 97, 110, 100, 112, 101, 114, 109]⟩ : ByteArray), (⟨#[99, 46, 115, 101, 116, 97, 100, 100, 114]⟩ : ByteArray), (⟨#[99, 46, 105, 110, 99, 97, 100, 100, 114]⟩ : ByteArray), (⟨#[99, 46, 116, 101, 115, 116, 115, 117, 98, 115, 101, 116]⟩ : ByteArray)] 91 [0, 13, 0, 16, 0, 17, 0, 32] [436207707, 536871003, 570425435, 1073741915] (N := w13.heap.size) (M := w13.heap.size + 1) (by simp [World.size_alloc]) (by simp [World.size_alloc]) (by decide) (by decide) (by decide +kernel)).mono ?_
  clear HF
  rintro e w14 ⟨B14, d14, rfl, HF0⟩
  have HF := Aside0.mk HF0
  clear HF0
  go_wp2_with fail
  refine (St.source HF.out 57 162 [(⟨#[99, 46, 103, 101, 116, 112, 101, 114, 109]⟩ : ByteArray), (⟨#[99, 46, 103, 101, 116, 116, 121, 112, 101]⟩ : ByteArray), (⟨#[99, 46, 103, 101, 116, 98, 97, 115, 101]⟩ : ByteArray), (⟨#[99, 46, 103, 101, 116, 108, 101, 110]⟩ : ByteArray), (⟨#[99, 46, 103, 101, 116, 116, 97, 103]⟩ : ByteArray), (⟨#[99, 46, 109, 111, 118, 101]⟩ : ByteArray), (⟨#[99, 46, 99, 108, 101, 97, 114, 116, 97, 103]⟩ : ByteArray), (⟨#[99, 46, 103, 101, 116, 97, 100, 100, 114]⟩ : ByteArray), (⟨#[99, 46, 115, 101, 110, 116, 114, 121]⟩ : ByteArray)] [0, 1, 2, 3, 4, 10, 11, 15, 17] [4261412955, 4262461531, 4263510107, 4264558683, 4265607259, 4271898715, 4272947291, 4277141595, 4279238747] (N := w14.heap.size) (M := w14.heap.size + 1) (by simp [World.size_alloc]) (by simp [World.size_alloc]) (by decide) (by decide) (by decide +kernel)).mono ?_
  clear HF
  rintro e w15 ⟨B15, d15, rfl, HF0⟩
  have HF := Aside0.mk HF0
  clear HF0
  go_wp2_with fail
  refine (St.f7 HF.out 66 158 [(⟨#[99, 46, 115, 112, 101, 99, 105, 97, 108, 114, 119]⟩ : ByteArray)] 91 [0, 1] [33554523] (N := w15.heap.size) (M := w15.heap.size + 1) (by simp [World.size_alloc]) (by simp [World.size_alloc]) (by decide) (by decide) (by decide +kernel)).mono ?_
  clear HF
  rintro e w16 ⟨B16, d16, rfl, HF0⟩
  have HF := Aside0.mk HF0
  clear HF0
  replace HF := Aside0.mk (St.two HF.out 67 164 [(⟨#[101, 99, 97, 108, 108]⟩ : ByteArray), (⟨#[109, 114, 101, 116]⟩ : ByteArray)] [115, 807403635] (N := w16.heap.size) (M := w16.heap.size + 1) (by simp [World.size_alloc]) (by simp [World.size_alloc]) (by decide) (by decide))
  go_wp2_with fail
  have hd := St.done HF.out (N := w16.heap.size + 1 + 1) (n := 18) (by simp [World.size_alloc]) rfl (by decide) rfl
  clear HF
  have HD := Aside0.mk hd
  clear hd
  go_ret
  exact ⟨_, _, rfl, HD.out.1, HD.out.2⟩

end Go.Proofs.YtfbmjfponkkaeaaGreatDoor.Fam
