/- instr's forms: what each says, and how an Imm goes into a word and comes out: functions that only reckon, run by the kernel. -/
import Derived.Test.YtfbmjfponkkaeaaGreatDoorFam
import Derived.Test.YtfbmjfponkkaeaaGreatDoorRun
import Derived.Laws.EntriesVeiled
namespace Go.Proofs.YtfbmjfponkkaeaaGreatDoor.Fam
open Go.RowKit Go.Proofs.YtfbmjfponkkaeaaGreatDoorW.PrintWords Go.Proofs.YtfbmjfponkkaeaaGreatDoor.Pr
set_option linter.unusedVariables false
set_option linter.unusedSimpArgs false

def valI : Option (Value × World) → Int
  | some (.int _ n, _) => n
  | _ => 0
noncomputable def reck (f : Nat) (x : Int) : Int := valI (Run.deep Tryz.prog 3 f #[.int .u32 x] default)
theorem reck_u (f : Nat) (x : Int) (w : World) (h : Run.deep Tryz.prog 3 f #[.int .u32 x] w = some (.int .u32 (reck f x), w)) : Calls Tryz.prog f #[.int .u32 x] w fun e w' => e = .returned (.int .u32 (reck f x)) ∧ w = w' := Run.deep_ok Tryz.prog 3 _ _ _ _ w h _ ⟨rfl, rfl⟩
theorem reck_i (f : Nat) (x : Int) (w : World) (h : Run.deep Tryz.prog 3 f #[.int .u32 x] w = some (.int .i32 (reck f x), w)) : Calls Tryz.prog f #[.int .u32 x] w fun e w' => e = .returned (.int .i32 (reck f x)) ∧ w = w' := Run.deep_ok Tryz.prog 3 _ _ _ _ w h _ ⟨rfl, rfl⟩
theorem put185 (x : Int) (w : World) : Calls Tryz.prog 185 #[.int .u32 x] w fun e w' => e = .returned (.int .u32 (reck 185 x)) ∧ w = w' := reck_u 185 x w (by kernel_rfl)
theorem put187 (x : Int) (w : World) : Calls Tryz.prog 187 #[.int .u32 x] w fun e w' => e = .returned (.int .u32 (reck 187 x)) ∧ w = w' := reck_u 187 x w (by kernel_rfl)
theorem put190 (x : Int) (w : World) : Calls Tryz.prog 190 #[.int .u32 x] w fun e w' => e = .returned (.int .u32 (reck 190 x)) ∧ w = w' := reck_u 190 x w (by kernel_rfl)
theorem put192 (x : Int) (w : World) : Calls Tryz.prog 192 #[.int .u32 x] w fun e w' => e = .returned (.int .u32 (reck 192 x)) ∧ w = w' := reck_u 192 x w (by kernel_rfl)
theorem put194 (x : Int) (w : World) : Calls Tryz.prog 194 #[.int .u32 x] w fun e w' => e = .returned (.int .u32 (reck 194 x)) ∧ w = w' := reck_u 194 x w (by kernel_rfl)
theorem put196 (x : Int) (w : World) : Calls Tryz.prog 196 #[.int .u32 x] w fun e w' => e = .returned (.int .u32 (reck 196 x)) ∧ w = w' := reck_u 196 x w (by kernel_rfl)
theorem put198 (x : Int) (w : World) : Calls Tryz.prog 198 #[.int .u32 x] w fun e w' => e = .returned (.int .u32 (reck 198 x)) ∧ w = w' := reck_u 198 x w (by kernel_rfl)
theorem get186 (x : Int) (w : World) : Calls Tryz.prog 186 #[.int .u32 x] w fun e w' => e = .returned (.int .i32 (reck 186 x)) ∧ w = w' := reck_i 186 x w (by kernel_rfl)
theorem get188 (x : Int) (w : World) : Calls Tryz.prog 188 #[.int .u32 x] w fun e w' => e = .returned (.int .i32 (reck 188 x)) ∧ w = w' := reck_i 188 x w (by kernel_rfl)
theorem get191 (x : Int) (w : World) : Calls Tryz.prog 191 #[.int .u32 x] w fun e w' => e = .returned (.int .i32 (reck 191 x)) ∧ w = w' := reck_i 191 x w (by kernel_rfl)
theorem get193 (x : Int) (w : World) : Calls Tryz.prog 193 #[.int .u32 x] w fun e w' => e = .returned (.int .i32 (reck 193 x)) ∧ w = w' := reck_i 193 x w (by kernel_rfl)
theorem get195 (x : Int) (w : World) : Calls Tryz.prog 195 #[.int .u32 x] w fun e w' => e = .returned (.int .i32 (reck 195 x)) ∧ w = w' := reck_i 195 x w (by kernel_rfl)
theorem get197 (x : Int) (w : World) : Calls Tryz.prog 197 #[.int .u32 x] w fun e w' => e = .returned (.int .i32 (reck 197 x)) ∧ w = w' := reck_i 197 x w (by kernel_rfl)
theorem get199 (x : Int) (w : World) : Calls Tryz.prog 199 #[.int .u32 x] w fun e w' => e = .returned (.int .i32 (reck 199 x)) ∧ w = w' := reck_i 199 x w (by kernel_rfl)
theorem get200 (x : Int) (w : World) : Calls Tryz.prog 200 #[.int .u32 x] w fun e w' => e = .returned (.int .i32 (reck 200 x)) ∧ w = w' := reck_i 200 x w (by kernel_rfl)
def formOf : Nat → Int × Nat × Nat × Int
  | 152 => (1, 185, 186, 127)
  | 153 => (1, 187, 188, 127)
  | 154 => (3, 190, 191, 28799)
  | 155 => (6, 192, 193, 28799)
  | 157 => (6, 194, 195, 28799)
  | 158 => (3, 196, 197, 4261441663)
  | 160 => (7, 198, 199, 4261441663)
  | 162 => (3, 198, 199, 4293947519)
  | 164 => (0, 198, 199, 4294967295)
  | _ => (0, 0, 0, 0)
set_option maxRecDepth 100000 in
theorem form152 (w : World) : Calls Tryz.prog 152 #[] w fun e w' => e = .returned (.agg #[.int .i64 1, .func (.func 185) #[] #[], .func (.func 186) #[] #[], .int .u32 127]) ∧ Below w.heap.size w w' := by
  have hu227 := Tryz.underlying227
  go_enter Tryz.func152, Tryz.ntmps152
  go_wp2
  refine bodyPost_ret (v := .agg #[.int .i64 1, .func (.func 185) #[] #[], .func (.func 186) #[] #[], .int .u32 127]) (by simp [results, Tryz.results152, go_sem]) rfl ⟨rfl, below_alloc (Below.refl _ _) _⟩
set_option maxRecDepth 100000 in
theorem form153 (w : World) : Calls Tryz.prog 153 #[] w fun e w' => e = .returned (.agg #[.int .i64 1, .func (.func 187) #[] #[], .func (.func 188) #[] #[], .int .u32 127]) ∧ Below w.heap.size w w' := by
  have hu227 := Tryz.underlying227
  go_enter Tryz.func153, Tryz.ntmps153
  go_wp2
  refine bodyPost_ret (v := .agg #[.int .i64 1, .func (.func 187) #[] #[], .func (.func 188) #[] #[], .int .u32 127]) (by simp [results, Tryz.results153, go_sem]) rfl ⟨rfl, below_alloc (Below.refl _ _) _⟩
set_option maxRecDepth 100000 in
theorem form154 (w : World) : Calls Tryz.prog 154 #[] w fun e w' => e = .returned (.agg #[.int .i64 3, .func (.func 190) #[] #[], .func (.func 191) #[] #[], .int .u32 28799]) ∧ Below w.heap.size w w' := by
  have hu227 := Tryz.underlying227
  go_enter Tryz.func154, Tryz.ntmps154
  go_wp2
  refine bodyPost_ret (v := .agg #[.int .i64 3, .func (.func 190) #[] #[], .func (.func 191) #[] #[], .int .u32 28799]) (by simp [results, Tryz.results154, go_sem]) rfl ⟨rfl, below_alloc (Below.refl _ _) _⟩
set_option maxRecDepth 100000 in
theorem form155 (w : World) : Calls Tryz.prog 155 #[] w fun e w' => e = .returned (.agg #[.int .i64 6, .func (.func 192) #[] #[], .func (.func 193) #[] #[], .int .u32 28799]) ∧ Below w.heap.size w w' := by
  have hu227 := Tryz.underlying227
  go_enter Tryz.func155, Tryz.ntmps155
  go_wp2
  refine bodyPost_ret (v := .agg #[.int .i64 6, .func (.func 192) #[] #[], .func (.func 193) #[] #[], .int .u32 28799]) (by simp [results, Tryz.results155, go_sem]) rfl ⟨rfl, below_alloc (Below.refl _ _) _⟩
set_option maxRecDepth 100000 in
theorem form157 (w : World) : Calls Tryz.prog 157 #[] w fun e w' => e = .returned (.agg #[.int .i64 6, .func (.func 194) #[] #[], .func (.func 195) #[] #[], .int .u32 28799]) ∧ Below w.heap.size w w' := by
  have hu227 := Tryz.underlying227
  go_enter Tryz.func157, Tryz.ntmps157
  go_wp2
  refine bodyPost_ret (v := .agg #[.int .i64 6, .func (.func 194) #[] #[], .func (.func 195) #[] #[], .int .u32 28799]) (by simp [results, Tryz.results157, go_sem]) rfl ⟨rfl, below_alloc (Below.refl _ _) _⟩
set_option maxRecDepth 100000 in
theorem form158 (w : World) : Calls Tryz.prog 158 #[] w fun e w' => e = .returned (.agg #[.int .i64 3, .func (.func 196) #[] #[], .func (.func 197) #[] #[], .int .u32 4261441663]) ∧ Below w.heap.size w w' := by
  have hu227 := Tryz.underlying227
  go_enter Tryz.func158, Tryz.ntmps158
  go_wp2
  refine bodyPost_ret (v := .agg #[.int .i64 3, .func (.func 196) #[] #[], .func (.func 197) #[] #[], .int .u32 4261441663]) (by simp [results, Tryz.results158, go_sem]) rfl ⟨rfl, below_alloc (Below.refl _ _) _⟩
set_option maxRecDepth 100000 in
theorem form160 (w : World) : Calls Tryz.prog 160 #[] w fun e w' => e = .returned (.agg #[.int .i64 7, .func (.func 198) #[] #[], .func (.func 199) #[] #[], .int .u32 4261441663]) ∧ Below w.heap.size w w' := by
  have hu227 := Tryz.underlying227
  go_enter Tryz.func160, Tryz.ntmps160
  go_wp2
  refine bodyPost_ret (v := .agg #[.int .i64 7, .func (.func 198) #[] #[], .func (.func 199) #[] #[], .int .u32 4261441663]) (by simp [results, Tryz.results160, go_sem]) rfl ⟨rfl, below_alloc (Below.refl _ _) _⟩
set_option maxRecDepth 100000 in
theorem form162 (w : World) : Calls Tryz.prog 162 #[] w fun e w' => e = .returned (.agg #[.int .i64 3, .func (.func 198) #[] #[], .func (.func 199) #[] #[], .int .u32 4293947519]) ∧ Below w.heap.size w w' := by
  have hu227 := Tryz.underlying227
  go_enter Tryz.func162, Tryz.ntmps162
  go_wp2
  refine bodyPost_ret (v := .agg #[.int .i64 3, .func (.func 198) #[] #[], .func (.func 199) #[] #[], .int .u32 4293947519]) (by simp [results, Tryz.results162, go_sem]) rfl ⟨rfl, below_alloc (Below.refl _ _) _⟩
set_option maxRecDepth 100000 in
theorem form164 (w : World) : Calls Tryz.prog 164 #[] w fun e w' => e = .returned (.agg #[.int .i64 0, .func (.func 198) #[] #[], .func (.func 199) #[] #[], .int .u32 4294967295]) ∧ Below w.heap.size w w' := by
  have hu227 := Tryz.underlying227
  go_enter Tryz.func164, Tryz.ntmps164
  go_wp2
  refine bodyPost_ret (v := .agg #[.int .i64 0, .func (.func 198) #[] #[], .func (.func 199) #[] #[], .int .u32 4294967295]) (by simp [results, Tryz.results164, go_sem]) rfl ⟨rfl, below_alloc (Below.refl _ _) _⟩
end Go.Proofs.YtfbmjfponkkaeaaGreatDoor.Fam
