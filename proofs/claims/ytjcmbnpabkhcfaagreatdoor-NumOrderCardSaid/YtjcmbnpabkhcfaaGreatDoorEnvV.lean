/- The witness world's variables are well made. -/
import Derived.Test.YtjcmbnpabkhcfaaGreatDoorEnvN
import Derived.Deep.DeepWitnessRowRef
namespace Go.Proofs.YtjcmbnpabkhcfaaGreatDoor
open Go.ChangeShapes Go.WideShapes Go.ChangeAt Go.RowKit
set_option linter.unusedVariables false
set_option linter.unusedSimpArgs false
theorem okRefB_of_zip {P : Program} {w : World} {t : TypeId} {cs : Array Value} {ts : List TypeId} (h : P.cellTypes P.depth t = some ts) (hl : cs.size = ts.length) (hz : ((cs.toList.zip ts).all fun p => Cell.okRefB P w p.2 p.1) = true) : Row.okRefB P w t cs = true := by
  unfold Row.okRefB
  rw [h]
  simp only [Bool.and_eq_true, beq_iff_eq, List.all_eq_true, List.mem_range]
  refine ⟨by rw [hl, Nat.mod_self], fun i hi => ?_⟩
  have hi' : i < ts.length := by omega
  rw [Nat.mod_eq_of_lt hi', Array.getElem?_eq_getElem hi, List.getElem?_eq_getElem hi']
  refine List.all_eq_true.1 hz (cs[i], ts[i]) ?_
  refine List.mem_iff_getElem.2 ⟨i, by simp; omega, by simp⟩
noncomputable def witW (os : Os) (args : Array Value) : World := (laidWorld os).forCall (fun _ _ => 0) ⟨#[], args, []⟩
def varB (P : Program) (w : World) (g : Nat) : Bool := match ((begin P (fun _ _ => 0) default).world.heap[g]?).bind Obj.row? with
  | none => true
  | some (zero, t) =>
    match w.heap[g]? with
    | some (.cells cs t' frozen) => decide (t' = t) && decide (frozen = (0, 0)) && cs.size == zero.size && (!P.buildable t || Row.okRefB P w t cs)
    | _ => false
theorem variables_eq (P : Program) (w : World) : w.variablesRefB P = (List.range P.globals.size).all (varB P w) := rfl
set_option maxRecDepth 100000 in
theorem vars_other (os : Os) (args : Array Value) : ((List.range Tryz.prog.globals.size).all fun g => g == 11 || varB Tryz.prog (witW os args) g) = true := by kernel_rfl
set_option maxRecDepth 100000 in
theorem vars_zero : (((begin Tryz.prog (fun _ _ => 0) default).world.heap[11]?).bind Obj.row?).map (fun z => (z.2, z.1.size)) = some (162, 1392) := by kernel_rfl
set_option maxRecDepth 100000 in
theorem vars_pow (os : Os) (args : Array Value) : (witW os args).heap[11]? = some (.cells (flatV Rows.laid_internal_strconv_pow10Tab).toArray 162 (0, 0)) := by kernel_rfl
set_option maxRecDepth 100000 in
theorem pow_size : (flatV Rows.laid_internal_strconv_pow10Tab).length = 1392 := by kernel_rfl
set_option maxRecDepth 100000 in
theorem pow_types : (Tryz.prog.cellTypes Tryz.prog.depth 162).map (fun ts => ts.length) = some 1392 := by kernel_rfl
set_option maxRecDepth 100000 in
theorem pow_zip : (Tryz.prog.cellTypes Tryz.prog.depth 162).map (fun ts => ((flatV Rows.laid_internal_strconv_pow10Tab).zip ts).all fun p => Cell.okB Tryz.prog p.2 p.1) = some true := by kernel_rfl
set_option maxRecDepth 100000 in
theorem pow_scalar : (Tryz.prog.cellTypes Tryz.prog.depth 162).map (fun ts => ts.all fun t => match Tryz.prog.underlying t with | some (.int _) => true | _ => false) = some true := by kernel_rfl
theorem vars_all (os : Os) (args : Array Value) : (witW os args).variablesRefB Tryz.prog = true := by
  rw [variables_eq, List.all_eq_true]
  intro g hg
  by_cases h11 : g = 11
  · subst h11
    unfold varB
    have hz := vars_zero
    split
    · rfl
    · rename_i zero t hX
      rw [hX] at hz
      simp only [Option.map_some, Option.some.injEq, Prod.mk.injEq] at hz
      obtain ⟨rfl, hzs⟩ := hz
      rw [vars_pow os args]
      simp only [List.size_toArray]
      rw [pow_size, hzs]
      have hok : Row.okRefB Tryz.prog (witW os args) 162 (flatV Rows.laid_internal_strconv_pow10Tab).toArray = true := by
        have h1 := pow_types
        have h2 := pow_zip
        have h3 := pow_scalar
        cases hts : Tryz.prog.cellTypes Tryz.prog.depth 162 with
        | none => rw [hts] at h1; cases h1
        | some ts =>
          rw [hts] at h1 h2 h3
          simp only [Option.map_some, Option.some.injEq] at h1 h2 h3
          refine okRefB_of_zip hts (by rw [List.size_toArray, pow_size, h1]) ?_
          rw [List.all_eq_true] at h2 h3 ⊢
          intro p hp
          have h4 := h2 p hp
          have h5 := h3 p.2 (List.of_mem_zip hp).2
          unfold Cell.okRefB
          split
          · rename_i hu _
            rw [hu] at h5
            cases h5
          · rename_i hu _
            rw [hu] at h5
            cases h5
          · exact h4
      rw [hok]
      simp
  · have h := List.all_eq_true.1 (vars_other os args) g hg
    rw [Bool.or_eq_true] at h
    exact h.resolve_left fun h => h11 (by simpa using h)
end Go.Proofs.YtjcmbnpabkhcfaaGreatDoor
