import Derived.Test.YtjcmbnpabkhcfaaGreatDoorEngH
namespace Go.Proofs.YtjcmbnpabkhcfaaGreatDoor.Eng
open Go.RowKit
open Go Go.Proofs
set_option linter.unusedVariables false
set_option linter.unusedSimpArgs false

inductive Nx where
  | val (v : EV)
  | skip
  | enter (f : FuncId) (args : List EV)

def NxOk (P : Program) (φ : Phi) (h : H) (w : World) (nx : Nx) (h' : H) (r : Result Next) : Prop := match nx with
  | .val v => ∃ u φ' w', r = .ok (.value u) w' ∧ VR φ' v u ∧ Step φ h w φ' h' w'
  | .skip => ∃ φ' w', r = .ok .skip w' ∧ Step φ h w φ' h' w'
  | .enter f args => ∃ vs, r = .ok (.enter f ⟨vs⟩) w ∧ VRs φ args vs ∧ h' = h

def valN : Option (EV × H) → Option (Nx × H)
  | some (v, h) => some (.val v, h)
  | none => none
def valP (h : H) : Option EV → Option (Nx × H)
  | some v => some (.val v, h)
  | none => none

def eCallee : EV → Option (FuncId × List EV × List EV)
  | .fn (.func g) a b => some (g, a, b)
  | .sc (.func (.func g) a b) => some (g, a.toList.map .sc, b.toList.map .sc)
  | _ => none
theorem eCallee_rel {φ : Phi} {e : EV} {r : Value} {g : FuncId} {a b : List EV} (h : VR φ e r) (he : eCallee e = some (g, a, b)) : ∃ x y, r = .func (.func g) ⟨x⟩ ⟨y⟩ ∧ VRs φ a x ∧ VRs φ b y := by
  unfold eCallee at he
  split at he
  · simp only [Option.some.injEq, Prod.mk.injEq] at he
    obtain ⟨rfl, rfl, rfl⟩ := he
    cases h with
    | fn h1 h2 => exact ⟨_, _, rfl, h1, h2⟩
  · simp only [Option.some.injEq, Prod.mk.injEq] at he
    obtain ⟨rfl, rfl, rfl⟩ := he
    cases h
    exact ⟨_, _, rfl, VRs.scs _, VRs.scs _⟩
  · cases he

def callable (P : Program) (g : FuncId) : Bool := match P.funcs[g]? with
  | some fn => match fn.body with
    | some _ => !(fn.name == "runtime.NumGoroutine")
    | none => false
  | none => false
theorem callable_run {P : Program} {g : FuncId} (h : callable P g = true) (args : Array Value) (w : World) : (callFunc g args).run P w = .ok (.enter g args) w := by
  unfold callable at h
  split at h
  · rename_i fn hf
    split at h
    · rename_i c hb
      have hne : fn.name ≠ "runtime.NumGoroutine" := by simpa using h
      simp [callFunc, program, Sem.run, hf, hne, hb]
    · cases h
  · cases h

def lenE (P : Program) (t : TypeId) (x : EV) : Option EV := match P.underlying t, x with
  | some (.slice _), .sl _ _ n _ _ => some (.sc (.int .i64 n))
  | some (.array n _), _ => some (.sc (.int .i64 n))
  | some (.pointer arr), _ => match P.underlying arr with
    | some (.array n _) => some (.sc (.int .i64 n))
    | _ => none
  | _, _ => none
theorem lenE_ok' {P : Program} {φ : Phi} {t ty : TypeId} {x v : EV} {r : Value} (hx : VR φ x r) (he : lenE P t x = some v) : ∃ u, (∀ w, (Builtin.len_ #[t] ty #[r]).run P w = .ok u w) ∧ VR φ v u := by
  unfold lenE at he
  split at he
  · rename_i e i o n c z hu
    simp only [Option.some.injEq] at he
    subst he
    obtain ⟨p, cap, rfl, _⟩ := sl_inv hx
    exact ⟨.int .i64 n, fun w => by simp [Builtin.len_, run_underlying hu, goInt], .sc⟩
  · rename_i n e hu
    simp only [Option.some.injEq] at he
    subst he
    exact ⟨.int .i64 n, fun w => by simp [Builtin.len_, run_underlying hu, goInt], .sc⟩
  · rename_i arr hu
    split at he
    · rename_i n e hu2
      simp only [Option.some.injEq] at he
      subst he
      exact ⟨.int .i64 n, fun w => by simp [Builtin.len_, run_underlying hu, run_underlying hu2, goInt], .sc⟩
    · cases he
  · cases he
theorem lenE_ok {P : Program} {φ : Phi} {w : World} {t ty : TypeId} {x v : EV} {r : Value} (hx : VR φ x r) (he : lenE P t x = some v) : ∃ u, (Builtin.len_ #[t] ty #[r]).run P w = .ok u w ∧ VR φ v u := let ⟨u, h1, h2⟩ := lenE_ok' hx he; ⟨u, h1 w, h2⟩
def capE (P : Program) (t : TypeId) (x : EV) : Option EV := match P.underlying t, x with
  | some (.slice _), .sl _ _ _ (some c) _ => some (.sc (.int .i64 c))
  | _, _ => none
theorem capE_ok {P : Program} {φ : Phi} {w : World} {t ty : TypeId} {x v : EV} {r : Value} (hx : VR φ x r) (he : capE P t x = some v) : ∃ u, (Builtin.cap_ #[t] ty #[r]).run P w = .ok u w ∧ VR φ v u := by
  unfold capE at he
  split at he
  · rename_i e i o n c z hu
    simp only [Option.some.injEq] at he
    subst he
    obtain ⟨p, cap, rfl, _, hc, _⟩ := sl_inv hx
    obtain rfl := hc c rfl
    exact ⟨.int .i64 c, by simp [Builtin.cap_, run_underlying hu, goInt], .sc⟩
  · cases he

def op (P : Program) (ρ : Operand → EV) (o : Op) (ty : TypeId) (h : H) : Option (Nx × H) := match o with
  | .move x => some (.val (ρ x), h)
  | .assign x => some (.val (ρ x), h)
  | .pick c a b => match ρ c with
    | .sc (.bool true) => some (.val (ρ a), h)
    | .sc (.bool false) => some (.val (ρ b), h)
    | _ => none
  | .alloc t => valN (eAlloc P h t)
  | .box _ x => valN (eBox h (ρ x))
  | .build t parts => valP h (eBuild P t (parts.toList.map fun p => (p.1, ρ p.2)))
  | .buildSlice t n parts => valN (eBuildSlice P h t n (parts.toList.map fun p => (p.1, ρ p.2)))
  | .load t a => valP h (eLoad P h t (ρ a))
  | .store t a x => match eStore P h t (ρ a) (ρ x) with
    | some h' => some (.skip, h')
    | none => none
  | .nilCheck x => match ρ x with
    | .ptr i k => some (.val (.ptr i k), h)
    | .fn (.func f) a b => some (.val (.fn (.func f) a b), h)
    | .ifc t v => some (.val (.ifc t v), h)
    | _ => none
  | .binOp .eql t x y _ => match nilCmp P t (ρ x) (ρ y) with
    | true => some (.val (.sc (.bool false)), h)
    | false => none
  | .binOp .neq t x y _ => match nilCmp P t (ρ x) (ρ y) with
    | true => some (.val (.sc (.bool true)), h)
    | false => none
  | .convert s d x => valN (eConvert P h s d (ρ x))
  | .makeInterface t x => match P.underlying t with
    | some (.interface _) => none
    | some _ => some (.val (.ifc t (ρ x)), h)
    | none => none
  | .makeFunc f a b => some (.val (.fn f (a.toList.map ρ) (b.toList.map ρ)), h)
  | .makeSlice t l c => valN (eMakeSlice P h t (ρ l) (ρ c))
  | .slice t x lo hi none => valP h (eSlice P h t (ρ x) (lo.map ρ) (hi.map ρ))
  | .fieldAddr t x k => valP h (eField P t k (ρ x))
  | .field t x k => valP h (eFieldV P t k (ρ x))
  | .indexAddr t x i => valP h (eIndexA P t (ρ x) (ρ i))
  | .index t x i => valP h (eIndexV P t (ρ x) (ρ i))
  | .extract t k => valP h (eExtract k (ρ t))
  | .call ⟨.builtin .len, ⟨[x]⟩, ⟨[t]⟩⟩ => valP h (lenE P t (ρ x))
  | .call ⟨.builtin .cap, ⟨[x]⟩, ⟨[t]⟩⟩ => valP h (capE P t (ρ x))
  | .call ⟨.builtin .append, ⟨[s, x]⟩, ⟨[t, tx]⟩⟩ => valN (eAppend P h t tx (ρ s) (ρ x))
  | .call ⟨.builtin .copy, ⟨[d, x]⟩, ⟨[t, _]⟩⟩ => valN (eCopy P h t (ρ d) (ρ x))
  | .call ⟨.value f, args, _⟩ => match eCallee (ρ f) with
    | some (g, a, b) => match callable P g with
      | true => some (.enter g (a ++ args.toList.map ρ ++ b), h)
      | false => none
    | none => none
  | _ => none

theorem valN_ok {P : Program} {φ : Phi} {h h' : H} {w : World} {x : Option (EV × H)} {nx : Nx} {s : Sem Value} (hv : valN x = some (nx, h'))
    (hs : ∀ v h', x = some (v, h') → ∃ u φ' w', s.run P w = .ok u w' ∧ VR φ' v u ∧ Step φ h w φ' h' w') : NxOk P φ h w nx h' ((do pure (Next.value (← s)) : Sem Next).run P w) := by
  unfold valN at hv
  split at hv
  · rename_i v h1
    simp only [Option.some.injEq, Prod.mk.injEq] at hv
    obtain ⟨rfl, rfl⟩ := hv
    obtain ⟨u, φ', w', h1, h2, h3⟩ := hs _ _ rfl
    exact ⟨u, φ', w', by simp [Sem.run_bind, h1], h2, h3⟩
  · cases hv
theorem valP_ok {P : Program} {φ : Phi} {h h' : H} {w : World} {x : Option EV} {nx : Nx} {s : Sem Value} (hw : WR φ h w) (hv : valP h x = some (nx, h'))
    (hs : ∀ v, x = some v → ∃ u, s.run P w = .ok u w ∧ VR φ v u) : NxOk P φ h w nx h' ((do pure (Next.value (← s)) : Sem Next).run P w) := by
  unfold valP at hv
  split at hv
  · rename_i v
    simp only [Option.some.injEq, Prod.mk.injEq] at hv
    obtain ⟨rfl, rfl⟩ := hv
    obtain ⟨u, h1, h2⟩ := hs _ rfl
    exact ⟨u, φ, w, by simp [Sem.run_bind, h1], h2, .refl hw⟩
  · cases hv
theorem PRs.mem {φ : Phi} {f : Operand → EV} {g : Operand → Value} : ∀ l : List (Nat × Operand), (∀ p ∈ l, VR φ (f p.2) (g p.2)) → PRs φ (l.map fun p => (p.1, f p.2)) (l.map fun p => (p.1, g p.2))
  | [], _ => .nil
  | (i, x) :: l, h => .cons (h (i, x) (by simp)) (PRs.mem l fun p hp => h p (by simp [hp]))
theorem VRs.mem {φ : Phi} {f : Operand → EV} {g : Operand → Value} : ∀ l : List Operand, (∀ x ∈ l, VR φ (f x) (g x)) → VRs φ (l.map f) (l.map g)
  | [], _ => .nil
  | x :: l, h => .cons (h x (by simp)) (VRs.mem l fun p hp => h p (by simp [hp]))
theorem OR.mem {φ : Phi} {f : Operand → EV} {g : Operand → Value} (o : Option Operand) (h : ∀ x ∈ o, VR φ (f x) (g x)) : OR φ (o.map f) (o.map g) := by
  cases o with
  | none => exact .no
  | some x => exact .yes (h x rfl)

theorem exec_builtin (r : Operand → Value) (b : Builtin) (args : List Operand) (argTypes : Array TypeId) (type : TypeId) (dst : Option Tmp) (pos : String) (after : Array Edge) (guard : Option (Nat × Bool)) :
    execOp r ⟨dst, .call ⟨.builtin b, ⟨args⟩, argTypes⟩, type, pos, after, guard⟩ = builtin b argTypes type ((⟨args⟩ : Array Operand).map fun | .const _ => true | _ => false) ⟨args.map r⟩ := by
  have e : (⟨args⟩ : Array Operand).map r = ⟨args.map r⟩ := by simp
  rw [← e]
  rfl
theorem op_ok {P : Program} {φ : Phi} {h h' : H} {w : World} {ρ : Operand → EV} {r : Operand → Value} {o : Oper} {nx : Nx} (hw : WR φ h w) (hρ : ∀ x ∈ o.op.operands.toList, VR φ (ρ x) (r x))
    (he : op P ρ o.op o.type h = some (nx, h')) : NxOk P φ h w nx h' ((execOp r o).run P w) := by
  obtain ⟨dst, o, type, pos, after, guard⟩ := o
  simp only at hρ he
  unfold op at he
  split at he
  · simp only [Option.some.injEq, Prod.mk.injEq] at he
    obtain ⟨rfl, rfl⟩ := he
    exact ⟨_, φ, w, rfl, hρ _ (by simp [Op.operands]), .refl hw⟩
  · simp only [Option.some.injEq, Prod.mk.injEq] at he
    obtain ⟨rfl, rfl⟩ := he
    exact ⟨_, φ, w, rfl, hρ _ (by simp [Op.operands]), .refl hw⟩
  · rename_i c a b
    have hc := hρ c (by simp [Op.operands])
    split at he
    · rename_i hcc
      simp only [Option.some.injEq, Prod.mk.injEq] at he
      obtain ⟨rfl, rfl⟩ := he
      rw [hcc] at hc
      generalize hv : r c = rc at hc
      cases hc
      refine ⟨r a, φ, w, ?_, hρ a (by simp [Op.operands]), .refl hw⟩
      simp [execOp, hv, asBool]
    · rename_i hcc
      simp only [Option.some.injEq, Prod.mk.injEq] at he
      obtain ⟨rfl, rfl⟩ := he
      rw [hcc] at hc
      generalize hv : r c = rc at hc
      cases hc
      refine ⟨r b, φ, w, ?_, hρ b (by simp [Op.operands]), .refl hw⟩
      simp [execOp, hv, asBool]
    · cases he
  · exact valN_ok he fun v h' hx => eAlloc_ok hw hx
  · rename_i t x
    exact valN_ok he fun v h' hx => eBox_ok hw (hρ x (by simp [Op.operands])) hx
  · rename_i t parts
    refine valP_ok hw he fun v hx => eBuild_ok ?_ hx
    have := PRs.mem (φ := φ) (f := ρ) (g := r) parts.toList fun p hp => hρ p.2 (by simp only [Op.operands, List.mem_map]; exact ⟨p, hp, rfl⟩)
    simpa using this
  · rename_i t n parts
    refine valN_ok he fun v h' hx => eBuildSlice_ok hw ?_ hx
    have := PRs.mem (φ := φ) (f := ρ) (g := r) parts.toList fun p hp => hρ p.2 (by simp only [Op.operands, List.mem_map]; exact ⟨p, hp, rfl⟩)
    simpa using this
  · rename_i t a
    exact valP_ok hw he fun v hx => eLoad_ok hw (hρ a (by simp [Op.operands])) hx
  · rename_i t a x
    split at he
    · rename_i h1 hs
      simp only [Option.some.injEq, Prod.mk.injEq] at he
      obtain ⟨rfl, rfl⟩ := he
      obtain ⟨w', h2, h3⟩ := eStore_ok (P := P) hw (hρ a (by simp [Op.operands])) (hρ x (by simp [Op.operands])) hs
      exact ⟨φ, w', by simp [execOp, Sem.run_bind, h2], h3⟩
    · cases he
  · rename_i x
    have hx := hρ x (by simp [Op.operands])
    split at he
    · rename_i i k hcc
      simp only [Option.some.injEq, Prod.mk.injEq] at he
      obtain ⟨rfl, rfl⟩ := he
      rw [hcc] at hx
      generalize hv : r x = rx at hx
      cases hx
      rename_i p hp
      exact ⟨_, φ, w, by simp only [execOp, hv, Sem.run_pure], .ptr hp, .refl hw⟩
    · rename_i f a b hcc
      simp only [Option.some.injEq, Prod.mk.injEq] at he
      obtain ⟨rfl, rfl⟩ := he
      rw [hcc] at hx
      generalize hv : r x = rx at hx
      cases hx
      rename_i xs ys h1 h2
      exact ⟨_, φ, w, by simp only [execOp, hv, Sem.run_pure], .fn h1 h2, .refl hw⟩
    · rename_i t v hcc
      simp only [Option.some.injEq, Prod.mk.injEq] at he
      obtain ⟨rfl, rfl⟩ := he
      rw [hcc] at hx
      generalize hv : r x = rx at hx
      cases hx
      rename_i u h1
      exact ⟨_, φ, w, by simp only [execOp, hv, Sem.run_pure], .ifc h1, .refl hw⟩
    · cases he
  · rename_i t x y yt
    split at he
    · rename_i hc
      simp only [Option.some.injEq, Prod.mk.injEq] at he
      obtain ⟨rfl, rfl⟩ := he
      have h1 := (nilCmp_ok (w := w) (hρ x (by simp [Op.operands])) (hρ y (by simp [Op.operands])) hc x y).1
      refine ⟨.bool false, φ, w, ?_, .sc, .refl hw⟩
      simp only [execOp, Sem.run_bind, h1, Result.andThen_ok, Sem.run_pure]
    · cases he
  · rename_i t x y yt
    split at he
    · rename_i hc
      simp only [Option.some.injEq, Prod.mk.injEq] at he
      obtain ⟨rfl, rfl⟩ := he
      have h1 := (nilCmp_ok (w := w) (hρ x (by simp [Op.operands])) (hρ y (by simp [Op.operands])) hc x y).2
      refine ⟨.bool true, φ, w, ?_, .sc, .refl hw⟩
      simp only [execOp, Sem.run_bind, h1, Result.andThen_ok, Sem.run_pure]
    · cases he
  · rename_i s d x
    exact valN_ok he fun v h' hx => eConvert_ok hw (hρ x (by simp [Op.operands])) hx
  · rename_i t x
    split at he
    · cases he
    · rename_i d hni hu
      simp only [Option.some.injEq, Prod.mk.injEq] at he
      obtain ⟨rfl, rfl⟩ := he
      refine ⟨.iface t (r x), φ, w, ?_, .ifc (hρ x (by simp [Op.operands])), .refl hw⟩
      simp only [execOp, Instr.makeInterface, Sem.run_bind, run_underlying hu, Result.andThen_ok]
      cases d <;> first
        | rfl
        | exact (hni _ hu).elim
    · cases he
  · rename_i f a b
    simp only [Option.some.injEq, Prod.mk.injEq] at he
    obtain ⟨rfl, rfl⟩ := he
    have ha := VRs.mem (φ := φ) (f := ρ) (g := r) a.toList fun x hx => hρ x (by simp [Op.operands]; exact .inl (by simpa using hx))
    have hb := VRs.mem (φ := φ) (f := ρ) (g := r) b.toList fun x hx => hρ x (by simp [Op.operands]; exact .inr (by simpa using hx))
    refine ⟨.func f (a.map r) (b.map r), φ, w, rfl, ?_, .refl hw⟩
    have := VR.fn (f := f) ha hb
    have e1 : (⟨a.toList.map r⟩ : Array Value) = a.map r := by apply Array.ext'; simp
    have e2 : (⟨b.toList.map r⟩ : Array Value) = b.map r := by apply Array.ext'; simp
    rw [e1, e2] at this
    exact this
  · rename_i t l c
    exact valN_ok he fun v h' hx => eMakeSlice_ok hw (hρ l (by simp [Op.operands])) (hρ c (by simp [Op.operands])) hx
  · rename_i t x lo hi
    exact valP_ok hw he fun v hx => eSlice_ok hw (hρ x (by simp [Op.operands])) (OR.mem lo fun y hy => hρ y (by cases hy; simp [Op.operands])) (OR.mem hi fun y hy => hρ y (by cases hy; simp [Op.operands])) hx
  · rename_i t x k
    exact valP_ok hw he fun v hx => eField_ok (hρ x (by simp [Op.operands])) hx
  · rename_i t x k
    exact valP_ok hw he fun v hx => eFieldV_ok (hρ x (by simp [Op.operands])) hx
  · rename_i t x i
    exact valP_ok hw he fun v hx => eIndexA_ok (hρ x (by simp [Op.operands])) (hρ i (by simp [Op.operands])) hx
  · rename_i t x i
    exact valP_ok hw he fun v hx => eIndexV_ok (hρ x (by simp [Op.operands])) (hρ i (by simp [Op.operands])) hx
  · rename_i t k
    exact valP_ok hw he fun v hx => eExtract_ok (hρ t (by simp [Op.operands])) hx
  · rename_i x t
    rw [exec_builtin]
    refine valP_ok (s := Builtin.len_ #[t] type #[r x]) hw he fun v hx => lenE_ok (hρ x (by simp [Op.operands, Call.operands])) hx
  · rename_i x t
    rw [exec_builtin]
    refine valP_ok (s := Builtin.cap_ #[t] type #[r x]) hw he fun v hx => capE_ok (hρ x (by simp [Op.operands, Call.operands])) hx
  · rename_i s x t tx
    rw [exec_builtin]
    refine valN_ok (s := Builtin.append_ #[t, tx] type #[r s, r x]) he fun v h' hx => eAppend_ok hw (hρ s (by simp [Op.operands, Call.operands])) (hρ x (by simp [Op.operands, Call.operands])) hx
  · rename_i d x t tx
    rw [exec_builtin]
    refine valN_ok (s := Builtin.copy_ #[t, tx] type #[r d, r x]) he fun v h' hx => eCopy_ok hw (hρ d (by simp [Op.operands, Call.operands])) (hρ x (by simp [Op.operands, Call.operands])) hx
  · rename_i f args ats
    split at he
    · rename_i g a b hcal
      split at he
      · rename_i hcb
        simp only [Option.some.injEq, Prod.mk.injEq] at he
        obtain ⟨rfl, rfl⟩ := he
        obtain ⟨x, y, hf, hx, hy⟩ := eCallee_rel (hρ f (by simp [Op.operands, Call.operands])) hcal
        have ha := VRs.mem (φ := φ) (f := ρ) (g := r) args.toList fun z hz => hρ z (by simp [Op.operands, Call.operands]; exact .inr (by simpa using hz))
        refine ⟨x ++ args.toList.map r ++ y, ?_, (hx.append ha).append hy, rfl⟩
        have e1 : (⟨x ++ args.toList.map r ++ y⟩ : Array Value) = (⟨x⟩ : Array Value) ++ args.map r ++ ⟨y⟩ := by apply Array.ext'; simp
        rw [e1]
        simp only [execOp, resolve, Sem.run_bind, hf, Deferred.ofValue, Sem.run_pure, Result.andThen_ok, invoke, callable_run hcb]
      · cases he
    · cases he
  · cases he
end Go.Proofs.YtjcmbnpabkhcfaaGreatDoor.Eng
