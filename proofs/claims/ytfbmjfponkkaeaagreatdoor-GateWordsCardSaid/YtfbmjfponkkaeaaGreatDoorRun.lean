/- Code that reads no memory is run by the kernel: the run of a function, and of those that it calls, as one equation. Whatever the program. -/
import Derived.Calls
import Derived.Tactics
import Derived.OwnWalk
import Derived.KernelRfl
namespace Go.Proofs.YtfbmjfponkkaeaaGreatDoor.Run
set_option linter.unusedVariables false
set_option linter.unusedSimpArgs false

/-- How calls are run. -/
abbrev Caller := FuncId → Array Value → World → Option (Value × World)
def Caller.Ok (P : Program) (call : Caller) : Prop := ∀ f args w v w', call f args w = some (v, w') → ∀ R : Ending → World → Prop, R (.returned v) w' → Calls P f args w R

/-- Operations of a region, one behind the other, as far as each gives a value or nothing, or calls. -/
def runOps (P : Program) (call : Caller) (ops : Array Oper) : List Nat → Act → World → Option (Act × World)
  | [], a, w => some (a, w)
  | i :: rest, a, w =>
    match ops[i]? with
    | none => runOps P call ops rest a w
    | some o =>
      match Region.wanted o (yielded ops a.tmps) with
      | true =>
        match (execOp a.eval o).run P w with
        | .ok (.value v) w' => runOps P call ops rest (a.put o.dst v) w'
        | .ok .skip w' => runOps P call ops rest (a.put o.dst undef) w'
        | .ok (.enter f args) w' => match call f args w' with
          | some (v, w2) => runOps P call ops rest (a.put o.dst v) w2
          | none => none
        | _ => none
      | false => runOps P call ops rest (a.put o.dst undef) w

theorem wpOps_of_run {P : Program} {call : Caller} (hc : call.Ok P) {ops : Array Oper} {Q : Exit → Act → World → Prop} (l : List Nat) :
    ∀ (a : Act) (w : World) (a' : Act) (w' : World), runOps P call ops l a w = some (a', w') → Q .normal a' w' → wpOps P ops Q l a w := by
  induction l with
  | nil =>
    intro a w a' w' h hq
    simp only [runOps, Option.some.injEq, Prod.mk.injEq] at h
    obtain ⟨rfl, rfl⟩ := h
    exact hq
  | cons i rest ih =>
    intro a w a' w' h hq
    unfold runOps at h
    unfold wpOps
    cases ho : ops[i]? with
    | none =>
      simp only [ho] at h ⊢
      exact ih a w a' w' h hq
    | some o =>
      simp only [ho] at h ⊢
      cases hw : Region.wanted o (yielded ops a.tmps) with
      | true =>
        simp only [hw] at h
        simp only [if_true]
        refine .inl ?_
        unfold Oper.wp Oper.upon
        split at h
        · rename_i v w1 hr
          simp only [hr]
          exact ih _ _ a' w' h hq
        · rename_i w1 hr
          simp only [hr]
          exact ih _ _ a' w' h hq
        · rename_i f args w1 hr
          simp only [hr]
          split at h
          · rename_i v w2 h2
            exact hc f args w1 v w2 h2 _ (ih _ _ a' w' h hq)
          · simp at h
        · simp at h
      | false =>
        simp only [hw] at h
        simp only [Bool.false_eq_true, if_false]
        exact ih _ _ a' w' h hq

theorem wp_region_of_run {P : Program} {call : Caller} (hc : call.Ok P) {id : Nat} {ops : Array Oper} {Q : Exit → Act → World → Prop} {a a' : Act} {w w' : World}
    (h : runOps P call ops (List.range ops.size) a w = some (a', w')) (hq : Q .normal a' w') : (Code.region id ops false).wp P Q a w :=
  wp_region (wpOps_of_run hc _ a w a' w' h hq)

/-- How straight code is left. -/
inductive Out where
  | normal
  | ret
  | exit (id : Nat)
def Out.exit' : Out → Exit
  | .normal => .normal
  | .ret => .ret
  | .exit id => .exit id

/-- Straight code: regions in the text's order, one behind the other; tests that are known. -/
def runCode (P : Program) (call : Caller) : Code → Act → World → Option (Out × Act × World)
  | .skip, a, w => some (.normal, a, w)
  | .ret, a, w => some (.ret, a, w)
  | .exit id, a, w => some (.exit id, a, w)
  | .region _ ops false, a, w => match runOps P call ops (List.range ops.size) a w with
    | some (a', w') => some (.normal, a', w')
    | none => none
  | .seq x y, a, w => match runCode P call x a w with
    | some (.normal, a', w') => runCode P call y a' w'
    | r => r
  | .block id c, a, w => match runCode P call c a w with
    | some (.exit id', a', w') => match Nat.decEq id' id with
      | isTrue _ => some (.normal, a', w')
      | isFalse _ => some (.exit id', a', w')
    | r => r
  | .cond c x y, a, w => match a.eval c with
    | .bool true => runCode P call x a w
    | .bool false => runCode P call y a w
    | _ => none
  | _, _, _ => none

theorem wp_of_runCode {P : Program} {call : Caller} (hc : call.Ok P) : ∀ (c : Code) (Q : Exit → Act → World → Prop) (a : Act) (w : World) (b : Out) (a' : Act) (w' : World), runCode P call c a w = some (b, a', w') → Q b.exit' a' w' → c.wp P Q a w := by
  intro c
  induction c with
  | skip =>
    intro Q a w b a' w' h hq
    simp only [runCode, Option.some.injEq, Prod.mk.injEq] at h
    obtain ⟨rfl, rfl, rfl⟩ := h
    exact wp_skip hq
  | ret =>
    intro Q a w b a' w' h hq
    simp only [runCode, Option.some.injEq, Prod.mk.injEq] at h
    obtain ⟨rfl, rfl, rfl⟩ := h
    exact wp_ret hq
  | exit id =>
    intro Q a w b a' w' h hq
    simp only [runCode, Option.some.injEq, Prod.mk.injEq] at h
    obtain ⟨rfl, rfl, rfl⟩ := h
    exact wp_exit hq
  | region id ops draw =>
    intro Q a w b a' w' h hq
    cases draw with
    | false =>
      unfold runCode at h
      split at h
      · rename_i a1 w1 h1
        simp only [Option.some.injEq, Prod.mk.injEq] at h
        obtain ⟨rfl, rfl, rfl⟩ := h
        exact wp_region_of_run hc h1 hq
      · simp at h
    | true => simp [runCode] at h
  | seq x y ihx ihy =>
    intro Q a w b a' w' h hq
    unfold runCode at h
    split at h
    · rename_i a1 w1 h1
      exact wp_seq (ihx _ a w .normal a1 w1 h1 (ihy Q a1 w1 b a' w' h hq))
    · rename_i hno
      cases b with
      | normal => exact absurd h (hno a' w')
      | ret => exact wp_seq (ihx _ a w .ret a' w' h hq)
      | exit id => exact wp_seq (ihx _ a w (.exit id) a' w' h hq)
  | block id c ih =>
    intro Q a w b a' w' h hq
    unfold runCode at h
    split at h
    · rename_i id' a1 w1 h1
      split at h
      · rename_i e _
        simp only [Option.some.injEq, Prod.mk.injEq] at h
        obtain ⟨rfl, rfl, rfl⟩ := h
        exact wp_block (ih _ a w (.exit id') a1 w1 h1 (by simpa [Out.exit', Exit.inBlock, e] using hq))
      · rename_i e _
        simp only [Option.some.injEq, Prod.mk.injEq] at h
        obtain ⟨rfl, rfl, rfl⟩ := h
        exact wp_block (ih _ a w (.exit id') a1 w1 h1 (by simpa [Out.exit', Exit.inBlock, e] using hq))
    · rename_i hno
      cases b with
      | normal => exact wp_block (ih _ a w .normal a' w' h hq)
      | ret => exact wp_block (ih _ a w .ret a' w' h hq)
      | exit id' => exact absurd h (hno id' a' w')
  | cond c x y ihx ihy =>
    intro Q a w b a' w' h hq
    unfold runCode at h
    split at h
    · rename_i hc
      exact wp_cond_true hc (ihx Q a w b a' w' h hq)
    · rename_i hc
      exact wp_cond_false hc (ihy Q a w b a' w' h hq)
    · simp at h
  | _ => intro Q a w b a' w' h; simp [runCode] at h

/-- A function, run whole: what comes back, and the world. -/
def runWith (P : Program) (call : Caller) (fn : Func) (args : Array Value) (w : World) : Option (Result Value × World) :=
  match fn.body with
  | none => none
  | some c => match runCode P call c { tmps := args ++ Array.replicate (fn.ntmps - args.size) undef, defers := [] } w with
    | some (.exit _, _, _) => none
    | none => none
    | some (_, a, w1) => match a.defers with
      | [] => some ((results fn a.tmps).run P w1, w1)
      | _ => none

theorem calls_of_runWith {P : Program} {call : Caller} (hc : call.Ok P) {f : FuncId} {fn : Func} {args : Array Value} {w W : World} {v : Value} {R : Ending → World → Prop} (hf : P.funcs[f]? = some fn)
    (h : runWith P call fn args w = some (.ok v W, W)) (hR : R (.returned v) W) : Calls P f args w R := by
  unfold runWith at h
  split at h
  · simp at h
  · rename_i c hb
    split at h
    · simp at h
    · simp at h
    · rename_i b a w1 hne h1
      split at h
      · rename_i hd
        simp only [Option.some.injEq, Prod.mk.injEq] at h
        obtain ⟨hr, rfl⟩ := h
        refine calls_of_wp hf hb (wp_of_runCode hc c _ _ _ b a w1 h1 ?_)
        cases b with
        | normal => exact ⟨hd, v, hr, hR⟩
        | ret => exact ⟨hd, v, hr, hR⟩
        | exit id => exact (hne id rfl).elim
      · simp at h

def noCall : Caller := fun _ _ _ => none
theorem noCall_ok (P : Program) : noCall.Ok P := fun _ _ _ _ _ h => by simp [noCall] at h
/-- The same as one equation, of a function that calls nothing. -/
def runF (P : Program) (fn : Func) (args : Array Value) (w : World) : Option (Result Value × World) := runWith P noCall fn args w
theorem calls_of_runF {P : Program} {f : FuncId} {fn : Func} {args : Array Value} {w W : World} {v : Value} {R : Ending → World → Prop} (hf : P.funcs[f]? = some fn)
    (h : runF P fn args w = some (.ok v W, W)) (hR : R (.returned v) W) : Calls P f args w R := calls_of_runWith (noCall_ok P) hf h hR

/-- Calls that only reckon: they leave the world, and give one value, run so many calls deep. -/
def deep (P : Program) : Nat → Caller
  | 0 => noCall
  | n + 1 => fun f args w => match P.funcs[f]? with
    | none => none
    | some fn => match fn.body with
      | none => none
      | some c => match runCode P (deep P n) c { tmps := args ++ Array.replicate (fn.ntmps - args.size) undef, defers := [] } w with
        | some (.exit _, _, _) => none
        | none => none
        | some (_, a, w1) => match a.defers, fn.results.toList with
          | [], [.tmp t] => some (a.tmps.getD t undef, w1)
          | [], [.tmp t, .tmp u] => some (.tuple #[a.tmps.getD t undef, a.tmps.getD u undef], w1)
          | [], [.tmp t, .tmp u, .tmp x] => some (.tuple #[a.tmps.getD t undef, a.tmps.getD u undef, a.tmps.getD x undef], w1)
          | _, _ => none

theorem deep_ok (P : Program) : ∀ n, (deep P n).Ok P
  | 0 => noCall_ok P
  | n + 1 => by
    intro f args w v w' h R hR
    unfold deep at h

    split at h
    · simp at h
    · rename_i fn hf
      split at h
      · simp at h
      · rename_i c hb
        split at h
        · simp at h
        · simp at h
        · rename_i b a w1 hne h1
          have hres : a.defers = [] ∧ (results fn a.tmps).run P w1 = .ok v w1 ∧ w1 = w' := by
            split at h
            · rename_i t hd hr
              simp only [Option.some.injEq, Prod.mk.injEq] at h
              have e : fn.results = #[.tmp t] := by rw [← hr]
              refine ⟨hd, ?_, h.2⟩
              rw [← h.1]
              exact results_tmp e a.tmps P w1
            · rename_i t u hd hr
              simp only [Option.some.injEq, Prod.mk.injEq] at h
              have e : fn.results = #[.tmp t, .tmp u] := by rw [← hr]
              refine ⟨hd, ?_, h.2⟩
              rw [← h.1]
              exact results_tmp2 e a.tmps P w1
            · rename_i t u x hd hr
              simp only [Option.some.injEq, Prod.mk.injEq] at h
              have e : fn.results = #[.tmp t, .tmp u, .tmp x] := by rw [← hr]
              refine ⟨hd, ?_, h.2⟩
              rw [← h.1]
              exact results_tmp3 e a.tmps P w1
            · simp at h
          obtain ⟨hd, hr, rfl⟩ := hres
          refine calls_of_wp hf hb (wp_of_runCode (deep_ok P n) c _ _ _ b a w1 h1 ?_)
          cases b with
          | normal => exact ⟨hd, v, hr, hR⟩
          | ret => exact ⟨hd, v, hr, hR⟩
          | exit id => exact (hne id rfl).elim

end Go.Proofs.YtfbmjfponkkaeaaGreatDoor.Run
