/- instr.Put, form by form. (Printed by genput.py out of one form's proof.) -/
import Derived.Test.YtfbmjfponkkaeaaGreatDoorOf
import Derived.Test.YtfbmjfponkkaeaaGreatDoorForms
import Derived.StillTailTactics
set_option linter.unusedVariables false
set_option linter.unusedSimpArgs false
namespace Go.Proofs.YtfbmjfponkkaeaaGreatDoor.Fam
open Go.RowKit Go.Proofs.YtfbmjfponkkaeaaGreatDoorW.PrintWords Go.Proofs.YtfbmjfponkkaeaaGreatDoor.Pr
set_option maxHeartbeats 4000000 in
set_option maxRecDepth 100000 in
theorem put_158 (o q1 q2 q3 imm wd a b c v : Int) (f : Fam) (j : Nat) (w : World) (h : ofIn o theFams = some (f, j)) (hF : f.form = 158) (ho : 0 ≤ o) (ho2 : o ≤ 255) (hj : j < f.words.length) (hw : f.words.getD j 0 = wd)
    (ha : instr_reg.f true q1 7 = some (a, true)) (hb : instr_reg.f true q2 15 = some (b, true)) (hc : instr_reg.f false q3 20 = some (c, true)) (hs : instr_special.f o q1 q2 q3 imm = some true)
    (hv : reck 196 (imm % 4294967296) = v) (hg : reck 197 v = imm) :
    Calls Tryz.prog 139 #[.agg #[.int .u8 o, .int .u8 q1, .int .u8 q2, .int .u8 q3, .int .i32 imm]] w fun e w' =>
      e = .returned (.tuple #[.int .u32 (Go.bits .or .u32 (Go.bits .or .u32 (Go.bits .or .u32 (Go.bits .or .u32 wd a) b) c) v), .int .i64 0]) ∧ Below w.heap.size w w' := by
  have H := Aside0.mk h
  have HF := Aside0.mk hF
  have HW := Aside0.mk hw
  have HA := Aside0.mk ha
  have HBb := Aside0.mk hb
  have HCc := Aside0.mk hc
  have HS := Aside0.mk hs
  have HV := Aside0.mk hv
  have HG := Aside0.mk hg
  clear h hF hw ha hb hc hs hv hg
  have hu194 := Tryz.underlying194
  have hu227 := Tryz.underlying227
  have hu63 := Tryz.underlying63
  go_enter Tryz.func139, Tryz.ntmps139
  go_wp2_with fail
  refine (of_calls o f j _ H.out ho ho2).mono ?_
  rintro e w1 ⟨B, c1, D, d, rfl, hC, hB⟩
  rw [HF.out]
  have HC := Aside0.mk hC
  have HB := Aside0.mk hB
  clear hC hB
  go_wp2_with fail
  refine (form158 _).mono ?_
  rintro e w2 ⟨rfl, hB2⟩
  have HB2 := Aside0.mk hB2
  clear hB2
  have BK := Aside0.mk (blk_below (blk_below (blk_new w (.cells #[.int .u8 o, .int .u8 q1, .int .u8 q2, .int .u8 q3, .int .i32 imm] 63)) HB.out) (below_then (below_1 w1 (.cells #[.int .u8 f.first, .func (.func 158) #[] #[], .slice B f.names.length c1, .slice D f.words.length d] 194)) (by simp) HB2.out))
  have FK := Aside0.mk (blk_below (blk_new w1 (.cells #[.int .u8 f.first, .func (.func 158) #[] #[], .slice B f.names.length c1, .slice D f.words.length d] 194)) HB2.out)
  have z0 := blk_cell BK.out 0
  have z1 := blk_cell BK.out 1
  have z2 := blk_cell BK.out 2
  have z3 := blk_cell BK.out 3
  have z4 := blk_cell BK.out 4
  have y0 := blk_cell FK.out 0
  have y1 := blk_cell FK.out 1
  have y2 := blk_cell FK.out 2
  have y3 := blk_cell FK.out 3
  have l0 := blk_lt BK.out
  have l1 := blk_lt FK.out
  simp only [List.getElem?_toArray, List.getElem?_cons_zero, List.getElem?_cons_succ] at z0 z1 z2 z3 z4 y0 y1 y2 y3
  have k0 : Go.bits .and .i64 3 1 = 1 := by decide
  have k1 : Go.bits .and .i64 3 2 = 2 := by decide
  have k2 : Go.bits .and .i64 3 4 = 0 := by decide
  go_wp2_with fail
  refine (instr_reg.calls true q1 7 a true _ HA.out).mono ?_
  rintro e w3 ⟨rfl, ⟨n3, rfl⟩⟩
  go_wp2_with fail
  refine (instr_reg.calls true q2 15 b true _ HBb.out).mono ?_
  rintro e w4 ⟨rfl, ⟨n4, rfl⟩⟩
  go_wp2_with fail
  refine (instr_reg.calls false q3 20 c true _ HCc.out).mono ?_
  rintro e w5 ⟨rfl, ⟨n5, rfl⟩⟩
  go_wp2_with fail
  refine (put196 _ _).mono ?_
  rintro e w6 ⟨rfl, rfl⟩
  rw [HV.out]
  go_wp2_with fail
  have hne : (imm != imm) = false := by simp
  have hgq : ∀ W, Calls Tryz.prog 197 #[.int .u32 v] W fun e w' => e = .returned (.int .i32 imm) ∧ w' = W := fun W => (get197 v W).mono fun e w' ⟨h1, h2⟩ => ⟨by rw [h1, HG.out], h2.symm⟩
  have HGQ := Aside0.mk hgq
  clear hgq
  have BK2 := Aside0.mk (blk_drewN (blk_alloc BK.out (.cells #[.int .i64 3, .func (.func 196) #[] #[], .func (.func 197) #[] #[], .int .u32 4261441663] 227)) (n3 + n4 + n5))
  have FK2 := Aside0.mk (blk_drewN (blk_alloc FK.out (.cells #[.int .i64 3, .func (.func 196) #[] #[], .func (.func 197) #[] #[], .int .u32 4261441663] 227)) (n3 + n4 + n5))
  have XK2 := Aside0.mk (blk_drewN (blk_new w2 (.cells #[.int .i64 3, .func (.func 196) #[] #[], .func (.func 197) #[] #[], .int .u32 4261441663] 227)) (n3 + n4 + n5))
  have HB3 := Aside0.mk (pw_below_drewN (below_then (below_then (below_then (below_1 w (.cells #[.int .u8 o, .int .u8 q1, .int .u8 q2, .int .u8 q3, .int .i32 imm] 63)) (by simp) HB.out) (by have := HB.out.size; simp at this; omega) (below_then (below_1 w1 (.cells #[.int .u8 f.first, .func (.func 158) #[] #[], .slice B f.names.length c1, .slice D f.words.length d] 194)) (by simp) HB2.out)) (by omega) (below_1 w2 (.cells #[.int .i64 3, .func (.func 196) #[] #[], .func (.func 197) #[] #[], .int .u32 4261441663] 227))) (n3 + n4 + n5))
  have HC2 := Aside0.mk (Kd.C_below (Kd.C_below HC.out (below_then (below_1 w1 (.cells #[.int .u8 f.first, .func (.func 158) #[] #[], .slice B f.names.length c1, .slice D f.words.length d] 194)) (by simp) HB2.out)) (pw_below_drewN (below_1 w2 (.cells #[.int .i64 3, .func (.func 196) #[] #[], .func (.func 197) #[] #[], .int .u32 4261441663] 227)) (n3 + n4 + n5)))
  clear BK FK HB HB2 HC z0 z1 z2 z3 z4 y0 y1 y2 y3 k0 k1 k2
  generalize (w2.alloc (.cells #[.int .i64 3, .func (.func 196) #[] #[], .func (.func 197) #[] #[], .int .u32 4261441663] 227)).drewN (n3 + n4 + n5) = W0 at *
  refine wp_region_still_tail 21 (by kernel_rfl) (by kernel_rfl) ?_
  change wpStill _ _ W0.drew _ _ _
  have z0 := blk_cell BK2.out 0
  have z1 := blk_cell BK2.out 1
  have z2 := blk_cell BK2.out 2
  have z3 := blk_cell BK2.out 3
  have z4 := blk_cell BK2.out 4
  have x2 := blk_cell XK2.out 2
  simp only [List.getElem?_toArray, List.getElem?_cons_zero, List.getElem?_cons_succ] at z0 z1 z2 z3 z4 x2
  simp only [List.take_succ_cons, List.take_zero, List.drop_succ_cons, List.drop_zero]
  replace FK2 := Aside0.mk (blk_drew FK2.out)
  replace HB3 := Aside0.mk (below_drew HB3.out)
  replace HC2 := Aside0.mk (Kd.C_below HC2.out (below_drew (Below.refl _ _)))
  iterate 14 still_step
  still_call (HGQ.out _)
  repeat still_step
  refine wpStill_nil ?_
  go_wp2_with fail
  refine (instr_special.calls o q1 q2 q3 imm true _ HS.out).mono ?_
  rintro e w8 ⟨rfl, hB8⟩
  have FK3 := Aside0.mk (blk_below FK2.out hB8)
  have HC3 := Aside0.mk (Kd.C_below HC2.out hB8)
  have HB4 := Aside0.mk (below_then HB3.out HB3.out.size hB8)
  clear hB8 FK2 HC2 HB3 BK2 XK2 z0 z1 z2 z3 z4 x2
  have y3 := blk_cell FK3.out 3
  simp only [List.getElem?_toArray, List.getElem?_cons_zero, List.getElem?_cons_succ] at y3
  obtain ⟨ad, eA, hcell⟩ := Kd.at_int HC3.out (j : Int) (by omega) (by omega)
  cases eA
  have hwd : rd f.words (j : Int) = wd := HW.out
  rw [hwd] at hcell
  simp only [Int.toNat_natCast] at hcell
  clear hwd
  go_wp2_with fail
  go_ret2
  exact ⟨rfl, HB4.out⟩

set_option maxHeartbeats 4000000 in
set_option maxRecDepth 100000 in
theorem put_160 (o q1 q2 q3 imm wd a b c v : Int) (f : Fam) (j : Nat) (w : World) (h : ofIn o theFams = some (f, j)) (hF : f.form = 160) (ho : 0 ≤ o) (ho2 : o ≤ 255) (hj : j < f.words.length) (hw : f.words.getD j 0 = wd)
    (ha : instr_reg.f true q1 7 = some (a, true)) (hb : instr_reg.f true q2 15 = some (b, true)) (hc : instr_reg.f true q3 20 = some (c, true)) (hs : instr_special.f o q1 q2 q3 imm = some true)
    (hv : reck 198 (imm % 4294967296) = v) (hg : reck 199 v = imm) :
    Calls Tryz.prog 139 #[.agg #[.int .u8 o, .int .u8 q1, .int .u8 q2, .int .u8 q3, .int .i32 imm]] w fun e w' =>
      e = .returned (.tuple #[.int .u32 (Go.bits .or .u32 (Go.bits .or .u32 (Go.bits .or .u32 (Go.bits .or .u32 wd a) b) c) v), .int .i64 0]) ∧ Below w.heap.size w w' := by
  have H := Aside0.mk h
  have HF := Aside0.mk hF
  have HW := Aside0.mk hw
  have HA := Aside0.mk ha
  have HBb := Aside0.mk hb
  have HCc := Aside0.mk hc
  have HS := Aside0.mk hs
  have HV := Aside0.mk hv
  have HG := Aside0.mk hg
  clear h hF hw ha hb hc hs hv hg
  have hu194 := Tryz.underlying194
  have hu227 := Tryz.underlying227
  have hu63 := Tryz.underlying63
  go_enter Tryz.func139, Tryz.ntmps139
  go_wp2_with fail
  refine (of_calls o f j _ H.out ho ho2).mono ?_
  rintro e w1 ⟨B, c1, D, d, rfl, hC, hB⟩
  rw [HF.out]
  have HC := Aside0.mk hC
  have HB := Aside0.mk hB
  clear hC hB
  go_wp2_with fail
  refine (form160 _).mono ?_
  rintro e w2 ⟨rfl, hB2⟩
  have HB2 := Aside0.mk hB2
  clear hB2
  have BK := Aside0.mk (blk_below (blk_below (blk_new w (.cells #[.int .u8 o, .int .u8 q1, .int .u8 q2, .int .u8 q3, .int .i32 imm] 63)) HB.out) (below_then (below_1 w1 (.cells #[.int .u8 f.first, .func (.func 160) #[] #[], .slice B f.names.length c1, .slice D f.words.length d] 194)) (by simp) HB2.out))
  have FK := Aside0.mk (blk_below (blk_new w1 (.cells #[.int .u8 f.first, .func (.func 160) #[] #[], .slice B f.names.length c1, .slice D f.words.length d] 194)) HB2.out)
  have z0 := blk_cell BK.out 0
  have z1 := blk_cell BK.out 1
  have z2 := blk_cell BK.out 2
  have z3 := blk_cell BK.out 3
  have z4 := blk_cell BK.out 4
  have y0 := blk_cell FK.out 0
  have y1 := blk_cell FK.out 1
  have y2 := blk_cell FK.out 2
  have y3 := blk_cell FK.out 3
  have l0 := blk_lt BK.out
  have l1 := blk_lt FK.out
  simp only [List.getElem?_toArray, List.getElem?_cons_zero, List.getElem?_cons_succ] at z0 z1 z2 z3 z4 y0 y1 y2 y3
  have k0 : Go.bits .and .i64 7 1 = 1 := by decide
  have k1 : Go.bits .and .i64 7 2 = 2 := by decide
  have k2 : Go.bits .and .i64 7 4 = 4 := by decide
  go_wp2_with fail
  refine (instr_reg.calls true q1 7 a true _ HA.out).mono ?_
  rintro e w3 ⟨rfl, ⟨n3, rfl⟩⟩
  go_wp2_with fail
  refine (instr_reg.calls true q2 15 b true _ HBb.out).mono ?_
  rintro e w4 ⟨rfl, ⟨n4, rfl⟩⟩
  go_wp2_with fail
  refine (instr_reg.calls true q3 20 c true _ HCc.out).mono ?_
  rintro e w5 ⟨rfl, ⟨n5, rfl⟩⟩
  go_wp2_with fail
  refine (put198 _ _).mono ?_
  rintro e w6 ⟨rfl, rfl⟩
  rw [HV.out]
  go_wp2_with fail
  have hne : (imm != imm) = false := by simp
  have hgq : ∀ W, Calls Tryz.prog 199 #[.int .u32 v] W fun e w' => e = .returned (.int .i32 imm) ∧ w' = W := fun W => (get199 v W).mono fun e w' ⟨h1, h2⟩ => ⟨by rw [h1, HG.out], h2.symm⟩
  have HGQ := Aside0.mk hgq
  clear hgq
  have BK2 := Aside0.mk (blk_drewN (blk_alloc BK.out (.cells #[.int .i64 7, .func (.func 198) #[] #[], .func (.func 199) #[] #[], .int .u32 4261441663] 227)) (n3 + n4 + n5))
  have FK2 := Aside0.mk (blk_drewN (blk_alloc FK.out (.cells #[.int .i64 7, .func (.func 198) #[] #[], .func (.func 199) #[] #[], .int .u32 4261441663] 227)) (n3 + n4 + n5))
  have XK2 := Aside0.mk (blk_drewN (blk_new w2 (.cells #[.int .i64 7, .func (.func 198) #[] #[], .func (.func 199) #[] #[], .int .u32 4261441663] 227)) (n3 + n4 + n5))
  have HB3 := Aside0.mk (pw_below_drewN (below_then (below_then (below_then (below_1 w (.cells #[.int .u8 o, .int .u8 q1, .int .u8 q2, .int .u8 q3, .int .i32 imm] 63)) (by simp) HB.out) (by have := HB.out.size; simp at this; omega) (below_then (below_1 w1 (.cells #[.int .u8 f.first, .func (.func 160) #[] #[], .slice B f.names.length c1, .slice D f.words.length d] 194)) (by simp) HB2.out)) (by omega) (below_1 w2 (.cells #[.int .i64 7, .func (.func 198) #[] #[], .func (.func 199) #[] #[], .int .u32 4261441663] 227))) (n3 + n4 + n5))
  have HC2 := Aside0.mk (Kd.C_below (Kd.C_below HC.out (below_then (below_1 w1 (.cells #[.int .u8 f.first, .func (.func 160) #[] #[], .slice B f.names.length c1, .slice D f.words.length d] 194)) (by simp) HB2.out)) (pw_below_drewN (below_1 w2 (.cells #[.int .i64 7, .func (.func 198) #[] #[], .func (.func 199) #[] #[], .int .u32 4261441663] 227)) (n3 + n4 + n5)))
  clear BK FK HB HB2 HC z0 z1 z2 z3 z4 y0 y1 y2 y3 k0 k1 k2
  generalize (w2.alloc (.cells #[.int .i64 7, .func (.func 198) #[] #[], .func (.func 199) #[] #[], .int .u32 4261441663] 227)).drewN (n3 + n4 + n5) = W0 at *
  refine wp_region_still_tail 21 (by kernel_rfl) (by kernel_rfl) ?_
  change wpStill _ _ W0.drew _ _ _
  have z0 := blk_cell BK2.out 0
  have z1 := blk_cell BK2.out 1
  have z2 := blk_cell BK2.out 2
  have z3 := blk_cell BK2.out 3
  have z4 := blk_cell BK2.out 4
  have x2 := blk_cell XK2.out 2
  simp only [List.getElem?_toArray, List.getElem?_cons_zero, List.getElem?_cons_succ] at z0 z1 z2 z3 z4 x2
  simp only [List.take_succ_cons, List.take_zero, List.drop_succ_cons, List.drop_zero]
  replace FK2 := Aside0.mk (blk_drew FK2.out)
  replace HB3 := Aside0.mk (below_drew HB3.out)
  replace HC2 := Aside0.mk (Kd.C_below HC2.out (below_drew (Below.refl _ _)))
  iterate 14 still_step
  still_call (HGQ.out _)
  repeat still_step
  refine wpStill_nil ?_
  go_wp2_with fail
  refine (instr_special.calls o q1 q2 q3 imm true _ HS.out).mono ?_
  rintro e w8 ⟨rfl, hB8⟩
  have FK3 := Aside0.mk (blk_below FK2.out hB8)
  have HC3 := Aside0.mk (Kd.C_below HC2.out hB8)
  have HB4 := Aside0.mk (below_then HB3.out HB3.out.size hB8)
  clear hB8 FK2 HC2 HB3 BK2 XK2 z0 z1 z2 z3 z4 x2
  have y3 := blk_cell FK3.out 3
  simp only [List.getElem?_toArray, List.getElem?_cons_zero, List.getElem?_cons_succ] at y3
  obtain ⟨ad, eA, hcell⟩ := Kd.at_int HC3.out (j : Int) (by omega) (by omega)
  cases eA
  have hwd : rd f.words (j : Int) = wd := HW.out
  rw [hwd] at hcell
  simp only [Int.toNat_natCast] at hcell
  clear hwd
  go_wp2_with fail
  go_ret2
  exact ⟨rfl, HB4.out⟩

set_option maxHeartbeats 4000000 in
set_option maxRecDepth 100000 in
theorem put_162 (o q1 q2 q3 imm wd a b c v : Int) (f : Fam) (j : Nat) (w : World) (h : ofIn o theFams = some (f, j)) (hF : f.form = 162) (ho : 0 ≤ o) (ho2 : o ≤ 255) (hj : j < f.words.length) (hw : f.words.getD j 0 = wd)
    (ha : instr_reg.f true q1 7 = some (a, true)) (hb : instr_reg.f true q2 15 = some (b, true)) (hc : instr_reg.f false q3 20 = some (c, true)) (hs : instr_special.f o q1 q2 q3 imm = some true)
    (hv : reck 198 (imm % 4294967296) = v) (hg : reck 199 v = imm) :
    Calls Tryz.prog 139 #[.agg #[.int .u8 o, .int .u8 q1, .int .u8 q2, .int .u8 q3, .int .i32 imm]] w fun e w' =>
      e = .returned (.tuple #[.int .u32 (Go.bits .or .u32 (Go.bits .or .u32 (Go.bits .or .u32 (Go.bits .or .u32 wd a) b) c) v), .int .i64 0]) ∧ Below w.heap.size w w' := by
  have H := Aside0.mk h
  have HF := Aside0.mk hF
  have HW := Aside0.mk hw
  have HA := Aside0.mk ha
  have HBb := Aside0.mk hb
  have HCc := Aside0.mk hc
  have HS := Aside0.mk hs
  have HV := Aside0.mk hv
  have HG := Aside0.mk hg
  clear h hF hw ha hb hc hs hv hg
  have hu194 := Tryz.underlying194
  have hu227 := Tryz.underlying227
  have hu63 := Tryz.underlying63
  go_enter Tryz.func139, Tryz.ntmps139
  go_wp2_with fail
  refine (of_calls o f j _ H.out ho ho2).mono ?_
  rintro e w1 ⟨B, c1, D, d, rfl, hC, hB⟩
  rw [HF.out]
  have HC := Aside0.mk hC
  have HB := Aside0.mk hB
  clear hC hB
  go_wp2_with fail
  refine (form162 _).mono ?_
  rintro e w2 ⟨rfl, hB2⟩
  have HB2 := Aside0.mk hB2
  clear hB2
  have BK := Aside0.mk (blk_below (blk_below (blk_new w (.cells #[.int .u8 o, .int .u8 q1, .int .u8 q2, .int .u8 q3, .int .i32 imm] 63)) HB.out) (below_then (below_1 w1 (.cells #[.int .u8 f.first, .func (.func 162) #[] #[], .slice B f.names.length c1, .slice D f.words.length d] 194)) (by simp) HB2.out))
  have FK := Aside0.mk (blk_below (blk_new w1 (.cells #[.int .u8 f.first, .func (.func 162) #[] #[], .slice B f.names.length c1, .slice D f.words.length d] 194)) HB2.out)
  have z0 := blk_cell BK.out 0
  have z1 := blk_cell BK.out 1
  have z2 := blk_cell BK.out 2
  have z3 := blk_cell BK.out 3
  have z4 := blk_cell BK.out 4
  have y0 := blk_cell FK.out 0
  have y1 := blk_cell FK.out 1
  have y2 := blk_cell FK.out 2
  have y3 := blk_cell FK.out 3
  have l0 := blk_lt BK.out
  have l1 := blk_lt FK.out
  simp only [List.getElem?_toArray, List.getElem?_cons_zero, List.getElem?_cons_succ] at z0 z1 z2 z3 z4 y0 y1 y2 y3
  have k0 : Go.bits .and .i64 3 1 = 1 := by decide
  have k1 : Go.bits .and .i64 3 2 = 2 := by decide
  have k2 : Go.bits .and .i64 3 4 = 0 := by decide
  go_wp2_with fail
  refine (instr_reg.calls true q1 7 a true _ HA.out).mono ?_
  rintro e w3 ⟨rfl, ⟨n3, rfl⟩⟩
  go_wp2_with fail
  refine (instr_reg.calls true q2 15 b true _ HBb.out).mono ?_
  rintro e w4 ⟨rfl, ⟨n4, rfl⟩⟩
  go_wp2_with fail
  refine (instr_reg.calls false q3 20 c true _ HCc.out).mono ?_
  rintro e w5 ⟨rfl, ⟨n5, rfl⟩⟩
  go_wp2_with fail
  refine (put198 _ _).mono ?_
  rintro e w6 ⟨rfl, rfl⟩
  rw [HV.out]
  go_wp2_with fail
  have hne : (imm != imm) = false := by simp
  have hgq : ∀ W, Calls Tryz.prog 199 #[.int .u32 v] W fun e w' => e = .returned (.int .i32 imm) ∧ w' = W := fun W => (get199 v W).mono fun e w' ⟨h1, h2⟩ => ⟨by rw [h1, HG.out], h2.symm⟩
  have HGQ := Aside0.mk hgq
  clear hgq
  have BK2 := Aside0.mk (blk_drewN (blk_alloc BK.out (.cells #[.int .i64 3, .func (.func 198) #[] #[], .func (.func 199) #[] #[], .int .u32 4293947519] 227)) (n3 + n4 + n5))
  have FK2 := Aside0.mk (blk_drewN (blk_alloc FK.out (.cells #[.int .i64 3, .func (.func 198) #[] #[], .func (.func 199) #[] #[], .int .u32 4293947519] 227)) (n3 + n4 + n5))
  have XK2 := Aside0.mk (blk_drewN (blk_new w2 (.cells #[.int .i64 3, .func (.func 198) #[] #[], .func (.func 199) #[] #[], .int .u32 4293947519] 227)) (n3 + n4 + n5))
  have HB3 := Aside0.mk (pw_below_drewN (below_then (below_then (below_then (below_1 w (.cells #[.int .u8 o, .int .u8 q1, .int .u8 q2, .int .u8 q3, .int .i32 imm] 63)) (by simp) HB.out) (by have := HB.out.size; simp at this; omega) (below_then (below_1 w1 (.cells #[.int .u8 f.first, .func (.func 162) #[] #[], .slice B f.names.length c1, .slice D f.words.length d] 194)) (by simp) HB2.out)) (by omega) (below_1 w2 (.cells #[.int .i64 3, .func (.func 198) #[] #[], .func (.func 199) #[] #[], .int .u32 4293947519] 227))) (n3 + n4 + n5))
  have HC2 := Aside0.mk (Kd.C_below (Kd.C_below HC.out (below_then (below_1 w1 (.cells #[.int .u8 f.first, .func (.func 162) #[] #[], .slice B f.names.length c1, .slice D f.words.length d] 194)) (by simp) HB2.out)) (pw_below_drewN (below_1 w2 (.cells #[.int .i64 3, .func (.func 198) #[] #[], .func (.func 199) #[] #[], .int .u32 4293947519] 227)) (n3 + n4 + n5)))
  clear BK FK HB HB2 HC z0 z1 z2 z3 z4 y0 y1 y2 y3 k0 k1 k2
  generalize (w2.alloc (.cells #[.int .i64 3, .func (.func 198) #[] #[], .func (.func 199) #[] #[], .int .u32 4293947519] 227)).drewN (n3 + n4 + n5) = W0 at *
  refine wp_region_still_tail 21 (by kernel_rfl) (by kernel_rfl) ?_
  change wpStill _ _ W0.drew _ _ _
  have z0 := blk_cell BK2.out 0
  have z1 := blk_cell BK2.out 1
  have z2 := blk_cell BK2.out 2
  have z3 := blk_cell BK2.out 3
  have z4 := blk_cell BK2.out 4
  have x2 := blk_cell XK2.out 2
  simp only [List.getElem?_toArray, List.getElem?_cons_zero, List.getElem?_cons_succ] at z0 z1 z2 z3 z4 x2
  simp only [List.take_succ_cons, List.take_zero, List.drop_succ_cons, List.drop_zero]
  replace FK2 := Aside0.mk (blk_drew FK2.out)
  replace HB3 := Aside0.mk (below_drew HB3.out)
  replace HC2 := Aside0.mk (Kd.C_below HC2.out (below_drew (Below.refl _ _)))
  iterate 14 still_step
  still_call (HGQ.out _)
  repeat still_step
  refine wpStill_nil ?_
  go_wp2_with fail
  refine (instr_special.calls o q1 q2 q3 imm true _ HS.out).mono ?_
  rintro e w8 ⟨rfl, hB8⟩
  have FK3 := Aside0.mk (blk_below FK2.out hB8)
  have HC3 := Aside0.mk (Kd.C_below HC2.out hB8)
  have HB4 := Aside0.mk (below_then HB3.out HB3.out.size hB8)
  clear hB8 FK2 HC2 HB3 BK2 XK2 z0 z1 z2 z3 z4 x2
  have y3 := blk_cell FK3.out 3
  simp only [List.getElem?_toArray, List.getElem?_cons_zero, List.getElem?_cons_succ] at y3
  obtain ⟨ad, eA, hcell⟩ := Kd.at_int HC3.out (j : Int) (by omega) (by omega)
  cases eA
  have hwd : rd f.words (j : Int) = wd := HW.out
  rw [hwd] at hcell
  simp only [Int.toNat_natCast] at hcell
  clear hwd
  go_wp2_with fail
  go_ret2
  exact ⟨rfl, HB4.out⟩

set_option maxHeartbeats 4000000 in
set_option maxRecDepth 100000 in
theorem put_164 (o q1 q2 q3 imm wd a b c v : Int) (f : Fam) (j : Nat) (w : World) (h : ofIn o theFams = some (f, j)) (hF : f.form = 164) (ho : 0 ≤ o) (ho2 : o ≤ 255) (hj : j < f.words.length) (hw : f.words.getD j 0 = wd)
    (ha : instr_reg.f false q1 7 = some (a, true)) (hb : instr_reg.f false q2 15 = some (b, true)) (hc : instr_reg.f false q3 20 = some (c, true)) (hs : instr_special.f o q1 q2 q3 imm = some true)
    (hv : reck 198 (imm % 4294967296) = v) (hg : reck 199 v = imm) :
    Calls Tryz.prog 139 #[.agg #[.int .u8 o, .int .u8 q1, .int .u8 q2, .int .u8 q3, .int .i32 imm]] w fun e w' =>
      e = .returned (.tuple #[.int .u32 (Go.bits .or .u32 (Go.bits .or .u32 (Go.bits .or .u32 (Go.bits .or .u32 wd a) b) c) v), .int .i64 0]) ∧ Below w.heap.size w w' := by
  have H := Aside0.mk h
  have HF := Aside0.mk hF
  have HW := Aside0.mk hw
  have HA := Aside0.mk ha
  have HBb := Aside0.mk hb
  have HCc := Aside0.mk hc
  have HS := Aside0.mk hs
  have HV := Aside0.mk hv
  have HG := Aside0.mk hg
  clear h hF hw ha hb hc hs hv hg
  have hu194 := Tryz.underlying194
  have hu227 := Tryz.underlying227
  have hu63 := Tryz.underlying63
  go_enter Tryz.func139, Tryz.ntmps139
  go_wp2_with fail
  refine (of_calls o f j _ H.out ho ho2).mono ?_
  rintro e w1 ⟨B, c1, D, d, rfl, hC, hB⟩
  rw [HF.out]
  have HC := Aside0.mk hC
  have HB := Aside0.mk hB
  clear hC hB
  go_wp2_with fail
  refine (form164 _).mono ?_
  rintro e w2 ⟨rfl, hB2⟩
  have HB2 := Aside0.mk hB2
  clear hB2
  have BK := Aside0.mk (blk_below (blk_below (blk_new w (.cells #[.int .u8 o, .int .u8 q1, .int .u8 q2, .int .u8 q3, .int .i32 imm] 63)) HB.out) (below_then (below_1 w1 (.cells #[.int .u8 f.first, .func (.func 164) #[] #[], .slice B f.names.length c1, .slice D f.words.length d] 194)) (by simp) HB2.out))
  have FK := Aside0.mk (blk_below (blk_new w1 (.cells #[.int .u8 f.first, .func (.func 164) #[] #[], .slice B f.names.length c1, .slice D f.words.length d] 194)) HB2.out)
  have z0 := blk_cell BK.out 0
  have z1 := blk_cell BK.out 1
  have z2 := blk_cell BK.out 2
  have z3 := blk_cell BK.out 3
  have z4 := blk_cell BK.out 4
  have y0 := blk_cell FK.out 0
  have y1 := blk_cell FK.out 1
  have y2 := blk_cell FK.out 2
  have y3 := blk_cell FK.out 3
  have l0 := blk_lt BK.out
  have l1 := blk_lt FK.out
  simp only [List.getElem?_toArray, List.getElem?_cons_zero, List.getElem?_cons_succ] at z0 z1 z2 z3 z4 y0 y1 y2 y3
  have k0 : Go.bits .and .i64 0 1 = 0 := by decide
  have k1 : Go.bits .and .i64 0 2 = 0 := by decide
  have k2 : Go.bits .and .i64 0 4 = 0 := by decide
  go_wp2_with fail
  refine (instr_reg.calls false q1 7 a true _ HA.out).mono ?_
  rintro e w3 ⟨rfl, ⟨n3, rfl⟩⟩
  go_wp2_with fail
  refine (instr_reg.calls false q2 15 b true _ HBb.out).mono ?_
  rintro e w4 ⟨rfl, ⟨n4, rfl⟩⟩
  go_wp2_with fail
  refine (instr_reg.calls false q3 20 c true _ HCc.out).mono ?_
  rintro e w5 ⟨rfl, ⟨n5, rfl⟩⟩
  go_wp2_with fail
  refine (put198 _ _).mono ?_
  rintro e w6 ⟨rfl, rfl⟩
  rw [HV.out]
  go_wp2_with fail
  have hne : (imm != imm) = false := by simp
  have hgq : ∀ W, Calls Tryz.prog 199 #[.int .u32 v] W fun e w' => e = .returned (.int .i32 imm) ∧ w' = W := fun W => (get199 v W).mono fun e w' ⟨h1, h2⟩ => ⟨by rw [h1, HG.out], h2.symm⟩
  have HGQ := Aside0.mk hgq
  clear hgq
  have BK2 := Aside0.mk (blk_drewN (blk_alloc BK.out (.cells #[.int .i64 0, .func (.func 198) #[] #[], .func (.func 199) #[] #[], .int .u32 4294967295] 227)) (n3 + n4 + n5))
  have FK2 := Aside0.mk (blk_drewN (blk_alloc FK.out (.cells #[.int .i64 0, .func (.func 198) #[] #[], .func (.func 199) #[] #[], .int .u32 4294967295] 227)) (n3 + n4 + n5))
  have XK2 := Aside0.mk (blk_drewN (blk_new w2 (.cells #[.int .i64 0, .func (.func 198) #[] #[], .func (.func 199) #[] #[], .int .u32 4294967295] 227)) (n3 + n4 + n5))
  have HB3 := Aside0.mk (pw_below_drewN (below_then (below_then (below_then (below_1 w (.cells #[.int .u8 o, .int .u8 q1, .int .u8 q2, .int .u8 q3, .int .i32 imm] 63)) (by simp) HB.out) (by have := HB.out.size; simp at this; omega) (below_then (below_1 w1 (.cells #[.int .u8 f.first, .func (.func 164) #[] #[], .slice B f.names.length c1, .slice D f.words.length d] 194)) (by simp) HB2.out)) (by omega) (below_1 w2 (.cells #[.int .i64 0, .func (.func 198) #[] #[], .func (.func 199) #[] #[], .int .u32 4294967295] 227))) (n3 + n4 + n5))
  have HC2 := Aside0.mk (Kd.C_below (Kd.C_below HC.out (below_then (below_1 w1 (.cells #[.int .u8 f.first, .func (.func 164) #[] #[], .slice B f.names.length c1, .slice D f.words.length d] 194)) (by simp) HB2.out)) (pw_below_drewN (below_1 w2 (.cells #[.int .i64 0, .func (.func 198) #[] #[], .func (.func 199) #[] #[], .int .u32 4294967295] 227)) (n3 + n4 + n5)))
  clear BK FK HB HB2 HC z0 z1 z2 z3 z4 y0 y1 y2 y3 k0 k1 k2
  generalize (w2.alloc (.cells #[.int .i64 0, .func (.func 198) #[] #[], .func (.func 199) #[] #[], .int .u32 4294967295] 227)).drewN (n3 + n4 + n5) = W0 at *
  refine wp_region_still_tail 21 (by kernel_rfl) (by kernel_rfl) ?_
  change wpStill _ _ W0.drew _ _ _
  have z0 := blk_cell BK2.out 0
  have z1 := blk_cell BK2.out 1
  have z2 := blk_cell BK2.out 2
  have z3 := blk_cell BK2.out 3
  have z4 := blk_cell BK2.out 4
  have x2 := blk_cell XK2.out 2
  simp only [List.getElem?_toArray, List.getElem?_cons_zero, List.getElem?_cons_succ] at z0 z1 z2 z3 z4 x2
  simp only [List.take_succ_cons, List.take_zero, List.drop_succ_cons, List.drop_zero]
  replace FK2 := Aside0.mk (blk_drew FK2.out)
  replace HB3 := Aside0.mk (below_drew HB3.out)
  replace HC2 := Aside0.mk (Kd.C_below HC2.out (below_drew (Below.refl _ _)))
  iterate 14 still_step
  still_call (HGQ.out _)
  repeat still_step
  refine wpStill_nil ?_
  go_wp2_with fail
  refine (instr_special.calls o q1 q2 q3 imm true _ HS.out).mono ?_
  rintro e w8 ⟨rfl, hB8⟩
  have FK3 := Aside0.mk (blk_below FK2.out hB8)
  have HC3 := Aside0.mk (Kd.C_below HC2.out hB8)
  have HB4 := Aside0.mk (below_then HB3.out HB3.out.size hB8)
  clear hB8 FK2 HC2 HB3 BK2 XK2 z0 z1 z2 z3 z4 x2
  have y3 := blk_cell FK3.out 3
  simp only [List.getElem?_toArray, List.getElem?_cons_zero, List.getElem?_cons_succ] at y3
  obtain ⟨ad, eA, hcell⟩ := Kd.at_int HC3.out (j : Int) (by omega) (by omega)
  cases eA
  have hwd : rd f.words (j : Int) = wd := HW.out
  rw [hwd] at hcell
  simp only [Int.toNat_natCast] at hcell
  clear hwd
  go_wp2_with fail
  go_ret2
  exact ⟨rfl, HB4.out⟩

end Go.Proofs.YtfbmjfponkkaeaaGreatDoor.Fam
