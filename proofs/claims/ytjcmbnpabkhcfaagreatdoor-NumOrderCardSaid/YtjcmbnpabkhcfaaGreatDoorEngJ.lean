import Derived.Test.YtjcmbnpabkhcfaaGreatDoorEngI
namespace Go.Proofs.YtjcmbnpabkhcfaaGreatDoor.Eng
open Go.RowKit
open Go Go.Proofs
set_option linter.unusedVariables false
set_option linter.unusedSimpArgs false

def vev (ρ : Operand → EV) (x : Operand) : Value := match (ρ x).val? with
  | some v => v
  | none => undef
def ground (ρ : Operand → EV) : List Operand → Bool
  | [] => true
  | x :: l => match (ρ x).val? with
    | some _ => ground ρ l
    | none => false
theorem ground_rel {φ : Phi} {ρ : Operand → EV} {r : Operand → Value} : ∀ {l : List Operand}, ground ρ l = true → (∀ x ∈ l, VR φ (ρ x) (r x)) → ∀ x ∈ l, vev ρ x = r x
  | [], _, _, _, h => by cases h
  | y :: l, hg, hr, x, hx => by
    unfold ground at hg
    split at hg
    · rename_i u hu
      rcases List.mem_cons.1 hx with rfl | hx
      · rw [VR.val (hr x (by simp)) hu]
        simp only [vev, hu]
      · exact ground_rel hg (fun z hz => hr z (by simp [hz])) x hx
    · cases hg

def mayCalm : Op → Bool
  | .alloc _ => false
  | .box .. => false
  | .load .. => false
  | .store .. => false
  | .buildSlice .. => false
  | .makeSlice .. => false
  | .select .. => false
  | _ => true

def exec (P : Program) (ρ : Operand → EV) (o : Oper) (h : H) : Option (Nx × H) := match mayCalm o.op with
  | true => match ground ρ o.op.operands.toList with
    | true => match calm P (execOp (vev ρ) o) with
      | some (.value v) => some (.val (.sc v), h)
      | some .skip => some (.skip, h)
      | some (.enter f args) => some (.enter f (args.toList.map .sc), h)
      | _ => op P ρ o.op o.type h
    | false => op P ρ o.op o.type h
  | false => op P ρ o.op o.type h

theorem exec_ok {P : Program} {φ : Phi} {h h' : H} {w : World} {ρ : Operand → EV} {r : Operand → Value} {o : Oper} {nx : Nx} (hw : WR φ h w) (hρ : ∀ x ∈ o.op.operands.toList, VR φ (ρ x) (r x))
    (he : exec P ρ o h = some (nx, h')) : NxOk P φ h w nx h' ((execOp r o).run P w) := by
  unfold exec at he
  split at he
  · rename_i hm
    split at he
    · rename_i hg
      have hsel : ∀ cs b, o.op ≠ .select cs b := fun cs b hq => by rw [hq] at hm; cases hm
      have hcg : execOp (vev ρ) o = execOp r o := execOp_congr o hsel fun x hx => ground_rel hg hρ x (by simpa using hx)
      split at he
      · rename_i v hc
        simp only [Option.some.injEq, Prod.mk.injEq] at he
        obtain ⟨rfl, rfl⟩ := he
        rw [hcg] at hc
        exact ⟨v, φ, w, calm_run _ _ hc w, .sc, .refl hw⟩
      · rename_i hc
        simp only [Option.some.injEq, Prod.mk.injEq] at he
        obtain ⟨rfl, rfl⟩ := he
        rw [hcg] at hc
        exact ⟨φ, w, calm_run _ _ hc w, .refl hw⟩
      · rename_i f args hc
        simp only [Option.some.injEq, Prod.mk.injEq] at he
        obtain ⟨rfl, rfl⟩ := he
        rw [hcg] at hc
        exact ⟨args.toList, calm_run _ _ hc w, VRs.scs _, rfl⟩
      · exact op_ok hw hρ he
    · exact op_ok hw hρ he
  · exact op_ok hw hρ he

/-! ### Operations that look at nothing but their operands -/

def pureKind : Op → Bool
  | .move _ => true
  | .assign _ => true
  | .fieldAddr .. => true
  | .field .. => true
  | .indexAddr .. => true
  | .index .. => true
  | .extract .. => true
  | .binOp .. => true
  | .unOp .. => true
  | _ => false
theorem calm_bind {P : Program} {α β : Type} : ∀ (s : Sem α) (f : α → Sem β), calm P (s >>= f) = match calm P s with | some a => calm P (f a) | none => none
  | .pure a, f => rfl
  | .program k, f => calm_bind (k P) f
  | .mark _ k, f => calm_bind k f
  | .load .., _ => rfl
  | .store .., _ => rfl
  | .new .., _ => rfl
  | .shape .., _ => rfl
  | .freeze .., _ => rfl
  | .frozen .., _ => rfl
  | .getObj .., _ => rfl
  | .setObj .., _ => rfl
  | .choose .., _ => rfl
  | .sys .., _ => rfl
  | .halt _, _ => rfl
theorem calm_value {P : Program} {s : Sem Value} {nx : Next} (h : calm P (do pure (Next.value (← s)) : Sem Next) = some nx) : ∃ u, nx = .value u := by
  rw [calm_bind] at h
  split at h
  · rename_i a _
    have h2 : some (Next.value a) = some nx := h
    cases h2
    exact ⟨a, rfl⟩
  · cases h
theorem pure_form {r : Operand → Value} {o : Oper} (hk : pureKind o.op = true) : ∃ s : Sem Value, execOp r o = (do pure (Next.value (← s)) : Sem Next) := by
  obtain ⟨dst, o, type, pos, after, guard⟩ := o
  cases o with
  | move x => exact ⟨pure (r x), rfl⟩
  | assign x => exact ⟨pure (r x), rfl⟩
  | fieldAddr a b c => exact ⟨_, rfl⟩
  | field a b c => exact ⟨_, rfl⟩
  | indexAddr a b c => exact ⟨_, rfl⟩
  | index a b c => exact ⟨_, rfl⟩
  | extract a b => exact ⟨_, rfl⟩
  | binOp a b c d e => exact ⟨_, rfl⟩
  | unOp a b c => exact ⟨_, rfl⟩
  | _ => cases hk
theorem value_run {P : Program} {s : Sem Value} {u : Value} (h : ∀ w, s.run P w = .ok u w) : ∀ w, ((do pure (Next.value (← s)) : Sem Next)).run P w = .ok (.value u) w := fun w => by
  simp [h w]
theorem exec_pure {P : Program} {φ : Phi} {h h' : H} {ρ : Operand → EV} {r : Operand → Value} {o : Oper} {nx : Nx} (hρ : ∀ x ∈ o.op.operands.toList, VR φ (ρ x) (r x)) (hk : pureKind o.op = true)
    (he : exec P ρ o h = some (nx, h')) : ∃ u, ∀ w, (execOp r o).run P w = .ok (.value u) w := by
  have hop : op P ρ o.op o.type h = some (nx, h') → ∃ u, ∀ w, (execOp r o).run P w = .ok (.value u) w := by
    intro he
    obtain ⟨dst, o, type, pos, after, guard⟩ := o
    simp only at hρ he hk
    cases o with
    | move x => exact ⟨r x, fun w => rfl⟩
    | assign x => exact ⟨r x, fun w => rfl⟩
    | fieldAddr t x k =>
      simp only [op, valP] at he
      split at he
      · rename_i v hv
        obtain ⟨u, h1, _⟩ := eField_ok' (hρ x (by simp [Op.operands])) hv
        exact ⟨u, value_run h1⟩
      · cases he
    | field t x k =>
      simp only [op, valP] at he
      split at he
      · rename_i v hv
        obtain ⟨u, h1, _⟩ := eFieldV_ok' (hρ x (by simp [Op.operands])) hv
        exact ⟨u, value_run h1⟩
      · cases he
    | indexAddr t x i =>
      simp only [op, valP] at he
      split at he
      · rename_i v hv
        obtain ⟨u, h1, _⟩ := eIndexA_ok' (hρ x (by simp [Op.operands])) (hρ i (by simp [Op.operands])) hv
        exact ⟨u, value_run h1⟩
      · cases he
    | index t x i =>
      simp only [op, valP] at he
      split at he
      · rename_i v hv
        obtain ⟨u, h1, _⟩ := eIndexV_ok' (hρ x (by simp [Op.operands])) (hρ i (by simp [Op.operands])) hv
        exact ⟨u, value_run h1⟩
      · cases he
    | extract t k =>
      simp only [op, valP] at he
      split at he
      · rename_i v hv
        obtain ⟨u, h1, _⟩ := eExtract_ok' (hρ t (by simp [Op.operands])) hv
        exact ⟨u, value_run h1⟩
      · cases he
    | binOp b t x y yt =>
      cases b with
      | eql =>
        simp only [op] at he
        split at he
        · rename_i hc
          exact ⟨.bool false, value_run fun w => (nilCmp_ok (w := w) (hρ x (by simp [Op.operands])) (hρ y (by simp [Op.operands])) hc x y).1⟩
        · cases he
      | neq =>
        simp only [op] at he
        split at he
        · rename_i hc
          exact ⟨.bool true, value_run fun w => (nilCmp_ok (w := w) (hρ x (by simp [Op.operands])) (hρ y (by simp [Op.operands])) hc x y).2⟩
        · cases he
      | _ => simp [op] at he
    | unOp a b c => simp [op] at he
    | _ => cases hk
  unfold exec at he
  split at he
  · rename_i hm
    split at he
    · rename_i hg
      have hsel : ∀ cs b, o.op ≠ .select cs b := fun cs b hq => by rw [hq] at hm; cases hm
      have hcg : execOp (vev ρ) o = execOp r o := execOp_congr o hsel fun x hx => ground_rel hg hρ x (by simpa using hx)
      obtain ⟨s, hs⟩ := pure_form (r := r) hk
      have fin : ∀ X, calm P (execOp (vev ρ) o) = some X → ∃ u, ∀ w, (execOp r o).run P w = .ok (.value u) w := fun X hX => by
        rw [hcg] at hX
        have hX2 := hX
        rw [hs] at hX2
        obtain ⟨u, rfl⟩ := calm_value hX2
        exact ⟨u, calm_run _ _ hX⟩
      split at he
      · rename_i hX
        exact fin _ hX
      · rename_i hX
        exact fin _ hX
      · rename_i hX
        exact fin _ hX
      · exact hop he
    · exact hop he
  · exact hop he

/-! ### What the heap keeps, whatever the world -/

theorem H.new_hs {h h' : H} {e : Ent} (hn : h.new e = some h') : HS h h' := by
  obtain ⟨h1, h2, h3, h4⟩ := H.new_spec hn
  exact ⟨by omega, by omega, fun i hi _ => h4 i (by omega)⟩
theorem H.put_hs {h h' : H} {i : Nat} {e : Option Ent} (hn : h.put i e = some h') : HS h h' := by
  obtain ⟨h1, h2, h3, h4⟩ := H.put_spec hn
  exact ⟨by omega, by omega, fun j hj hl => h4 j (by omega)⟩

theorem eBox_hs {h h' : H} {x v : EV} (he : eBox h x = some (v, h')) : HS h h' := by
  unfold eBox at he
  repeat' split at he
  all_goals first
    | cases he; done
    | (simp only [Option.some.injEq, Prod.mk.injEq] at he; obtain ⟨rfl, rfl⟩ := he; rename_i hn; exact H.new_hs hn)
theorem eAlloc_hs {P : Program} {h h' : H} {t : TypeId} {v : EV} (he : eAlloc P h t = some (v, h')) : HS h h' := by
  unfold eAlloc at he
  split at he
  · exact eBox_hs he
  · cases he
theorem eStore_hs {P : Program} {h h' : H} {t : TypeId} {a x : EV} (he : eStore P h t a x = some h') : HS h h' := by
  unfold eStore at he
  repeat' split at he
  all_goals first
    | cases he; done
    | exact H.put_hs he
theorem eBuildSlice_hs {P : Program} {h h' : H} {t : TypeId} {len : Nat} {ps : List (Nat × EV)} {v : EV} (he : eBuildSlice P h t len ps = some (v, h')) : HS h h' := by
  unfold eBuildSlice at he
  repeat' split at he
  all_goals first
    | cases he; done
    | (simp only [Option.some.injEq, Prod.mk.injEq] at he; obtain ⟨rfl, rfl⟩ := he; rename_i hn; exact H.new_hs hn)
theorem eMakeSlice_hs {P : Program} {h h' : H} {t : TypeId} {l c v : EV} (he : eMakeSlice P h t l c = some (v, h')) : HS h h' := by
  unfold eMakeSlice at he
  repeat' split at he
  all_goals first
    | cases he; done
    | (simp only [Option.some.injEq, Prod.mk.injEq] at he; obtain ⟨rfl, rfl⟩ := he; rename_i hn; exact H.new_hs hn)
theorem eAppend_hs {P : Program} {h h' : H} {t tx : TypeId} {s x v : EV} (he : eAppend P h t tx s x = some (v, h')) : HS h h' := by
  unfold eAppend at he
  repeat' split at he
  all_goals first
    | cases he; done
    | (simp only [Option.some.injEq, Prod.mk.injEq] at he; obtain ⟨rfl, rfl⟩ := he; first | exact .refl _ | exact H.new_hs (by assumption) | exact H.put_hs (by assumption) | exact (H.put_hs (by assumption)).trans (H.new_hs (by assumption)))
theorem eCopy_hs {P : Program} {h h' : H} {t : TypeId} {d x v : EV} (he : eCopy P h t d x = some (v, h')) : HS h h' := by
  unfold eCopy at he
  repeat' split at he
  all_goals first
    | cases he; done
    | (simp only [Option.some.injEq, Prod.mk.injEq] at he; obtain ⟨rfl, rfl⟩ := he; rename_i hn; exact H.put_hs hn)
theorem eConvert_hs {P : Program} {h h' : H} {s d : TypeId} {x v : EV} (he : eConvert P h s d x = some (v, h')) : HS h h' := by
  unfold eConvert at he
  repeat' split at he
  all_goals first
    | cases he; done
    | (simp only [Option.some.injEq, Prod.mk.injEq] at he; obtain ⟨rfl, rfl⟩ := he; first | exact .refl _ | (rename_i hn; exact H.new_hs hn))
theorem valN_hs {h h' : H} {x : Option (EV × H)} {nx : Nx} (hv : valN x = some (nx, h')) (hs : ∀ v h', x = some (v, h') → HS h h') : HS h h' := by
  unfold valN at hv
  split at hv
  · simp only [Option.some.injEq, Prod.mk.injEq] at hv
    obtain ⟨rfl, rfl⟩ := hv
    exact hs _ _ rfl
  · cases hv
theorem valP_hs {h h' : H} {x : Option EV} {nx : Nx} (hv : valP h x = some (nx, h')) : HS h h' := by
  unfold valP at hv
  split at hv
  · simp only [Option.some.injEq, Prod.mk.injEq] at hv
    obtain ⟨rfl, rfl⟩ := hv
    exact .refl _
  · cases hv
theorem op_hs {P : Program} {ρ : Operand → EV} {o : Op} {ty : TypeId} {h h' : H} {nx : Nx} (he : op P ρ o ty h = some (nx, h')) : HS h h' := by
  unfold op at he
  repeat' split at he
  all_goals first
    | cases he; done
    | exact valP_hs he
    | exact valN_hs he fun _ _ => eAlloc_hs
    | exact valN_hs he fun _ _ => eBox_hs
    | exact valN_hs he fun _ _ => eBuildSlice_hs
    | exact valN_hs he fun _ _ => eMakeSlice_hs
    | exact valN_hs he fun _ _ => eAppend_hs
    | exact valN_hs he fun _ _ => eCopy_hs
    | exact valN_hs he fun _ _ => eConvert_hs
    | (simp only [Option.some.injEq, Prod.mk.injEq] at he; obtain ⟨rfl, rfl⟩ := he; first | exact .refl _ | (rename_i hn; exact eStore_hs hn))
theorem exec_hs {P : Program} {ρ : Operand → EV} {o : Oper} {h h' : H} {nx : Nx} (he : exec P ρ o h = some (nx, h')) : HS h h' := by
  unfold exec at he
  repeat' split at he
  all_goals first
    | exact op_hs he
    | (simp only [Option.some.injEq, Prod.mk.injEq] at he; obtain ⟨rfl, rfl⟩ := he; exact .refl _)

/-! ### One operation of a region -/

abbrev CallE := FuncId → List EV → H → Option (EV × H)
structure CallOk (P : Program) (G : Nat) (call : CallE) : Prop where
  run : ∀ f args h v h', call f args h = some (v, h') → ∀ φ w vs, WR φ h w → GR φ G → VRs φ args vs →
    Calls P f ⟨vs⟩ w fun e w' => ∃ u φ', e = .returned u ∧ VR φ' v u ∧ Step φ h w φ' h' w'
  hs : ∀ f args h v h', call f args h = some (v, h') → HS h h'

def wantE (ops : Array Oper) (G : Nat) (fr : Fr) (n : Nat) (o : Oper) : Option Bool := match o.guard with
  | none => some true
  | some (j, want) => match (ops[j]?).bind (·.dst) with
    | none => some false
    | some t => match decide (t < n) with
      | true => match ev G fr (.tmp t) with
        | .sc (.bool b) => some (b == want)
        | .sc _ => some false
        | _ => none
      | false => none
theorem wantE_ok {φ : Phi} {G : Nat} {ops : Array Oper} {fr : Fr} {n : Nat} {o : Oper} {a : Act} {b : Bool} (hsz : a.tmps.size = n) (hl : ∀ t ∈ o.looksAt ops, VR φ (ev G fr (.tmp t)) (a.tmps.getD t undef))
    (he : wantE ops G fr n o = some b) : Region.wanted o (yielded ops a.tmps) = b := by
  unfold wantE at he
  split at he
  · rename_i hg
    simp only [Option.some.injEq] at he
    subst he
    simp [Region.wanted, hg]
  · rename_i j want hg
    split at he
    · rename_i hd
      simp only [Option.some.injEq] at he
      subst he
      simp [Region.wanted, hg, yielded, hd]
    · rename_i t hd
      split at he
      · rename_i ht
        have ht : @LT.lt Nat _ t n := of_decide_eq_true ht
        have hlt : t < a.tmps.size := by rw [hsz]; exact ht
        have hget : a.tmps[t]? = some (a.tmps.getD t undef) := by
          rw [Array.getElem?_eq_getElem hlt]
          simp [Array.getD, hlt]
        have hv := hl t (by simp [Oper.looksAt, hg, hd])
        split at he
        · rename_i c hc
          simp only [Option.some.injEq] at he
          subst he
          rw [hc] at hv
          have hv2 : a.tmps.getD t undef = .bool c := by
            generalize hu : a.tmps.getD t undef = u at hv
            cases hv
            rfl
          rw [hv2] at hget
          simp [Region.wanted, hg, yielded, hd, hget]
        · rename_i c hnb hc
          simp only [Option.some.injEq] at he
          subst he
          rw [hc] at hv
          have hv2 : a.tmps.getD t undef = c := by
            generalize hu : a.tmps.getD t undef = u at hv
            cases hv
            rfl
          rw [hv2] at hget
          cases c with
          | bool b => exact (hnb b rfl).elim
          | _ => simp [Region.wanted, hg, yielded, hd, hget]
        · cases he
      · cases he

def valE (P : Program) (G n : Nat) (call : CallE) (ops : Array Oper) (o : Oper) (fr : Fr) (h : H) : Option (EV × H) := match wantE ops G fr n o with
  | some true => match exec P (ev G fr) o h with
    | some (.val v, h') => some (v, h')
    | some (.skip, h') => some (.sc undef, h')
    | some (.enter f args, h') => call f args h'
    | none => none
  | some false => some (.sc undef, h)
  | none => none

theorem valE_hs {P : Program} {G n : Nat} {call : CallE} {ops : Array Oper} {o : Oper} {fr : Fr} {h h' : H} {v : EV} (hc : CallOk P G call) (he : valE P G n call ops o fr h = some (v, h')) : HS h h' := by
  unfold valE at he
  split at he
  · split at he
    · rename_i hx
      simp only [Option.some.injEq, Prod.mk.injEq] at he
      obtain ⟨rfl, rfl⟩ := he
      exact exec_hs hx
    · rename_i hx
      simp only [Option.some.injEq, Prod.mk.injEq] at he
      obtain ⟨rfl, rfl⟩ := he
      exact exec_hs hx
    · rename_i hx
      exact (exec_hs hx).trans (hc.hs _ _ _ _ _ he)
    · cases he
  · simp only [Option.some.injEq, Prod.mk.injEq] at he
    obtain ⟨rfl, rfl⟩ := he
    exact .refl _
  · cases he

theorem valE_ok {P : Program} {φ : Phi} {G n : Nat} {call : CallE} {ops : Array Oper} {o : Oper} {fr : Fr} {h h' : H} {v : EV} {a : Act} {w : World} (hc : CallOk P G call) (hw : WR φ h w) (hg : GR φ G) (hsz : a.tmps.size = n)
    (hl : ∀ t ∈ o.looksAt ops, VR φ (ev G fr (.tmp t)) (a.tmps.getD t undef)) (he : valE P G n call ops o fr h = some (v, h')) (K : Act → World → Prop) (Q : Exit → Act → World → Prop)
    (hK : ∀ φ' u w', VR φ' v u → Step φ h w φ' h' w' → K (a.put o.dst u) w') :
    if Region.wanted o (yielded ops a.tmps) then o.wp P a w K Q else K (a.put o.dst undef) w := by
  unfold valE at he
  split at he
  · rename_i hwt
    rw [wantE_ok hsz hl hwt, if_pos rfl]
    have hρ : ∀ x ∈ o.op.operands.toList, VR φ (ev G fr x) (a.eval x) := fun x hx => by
      cases x with
      | tmp t =>
        refine hl t ?_
        simp only [Oper.looksAt, List.mem_append, List.mem_filterMap]
        exact .inl ⟨.tmp t, hx, rfl⟩
      | const v => exact .sc
      | global g =>
        simp only [ev]
        split
        · rename_i hd
          obtain ⟨m, hm⟩ := hg g (of_decide_eq_true hd)
          exact .ptr (o := 0) hm
        · exact .sc
      | func f => exact .sc
    unfold Oper.wp
    split at he
    · rename_i hx
      simp only [Option.some.injEq, Prod.mk.injEq] at he
      obtain ⟨rfl, rfl⟩ := he
      obtain ⟨u, φ', w', h1, h2, h3⟩ := exec_ok hw hρ hx
      rw [h1]
      exact hK φ' u w' h2 h3
    · rename_i hx
      simp only [Option.some.injEq, Prod.mk.injEq] at he
      obtain ⟨rfl, rfl⟩ := he
      obtain ⟨φ', w', h1, h3⟩ := exec_ok hw hρ hx
      rw [h1]
      exact hK φ' undef w' .sc h3
    · rename_i f args h1 hx
      obtain ⟨vs, h2, h3, rfl⟩ := exec_ok hw hρ hx
      rw [h2]
      refine (hc.run _ _ _ _ _ he φ w vs hw hg h3).mono ?_
      rintro e w' ⟨u, φ', rfl, h4, h5⟩
      exact hK φ' u w' h4 h5
    · cases he
  · rename_i hwt
    rw [wantE_ok hsz hl hwt, if_neg (by decide)]
    simp only [Option.some.injEq, Prod.mk.injEq] at he
    obtain ⟨rfl, rfl⟩ := he
    exact hK φ undef w .sc (.refl hw)
  · cases he

def putE (n : Nat) (fr : Fr) (d : Option Tmp) (v : EV) : Option Fr := match d with
  | none => some fr
  | some d => match decide (d < n) with
    | true => fr.set depth d (some v)
    | false => none
theorem putE_ev {G n : Nat} {fr fr' : Fr} {d : Option Tmp} {v : EV} (he : putE n fr d v = some fr') (t : Tmp) : (d = some t → ev G fr' (.tmp t) = v ∧ t < n) ∧ (d ≠ some t → ev G fr' (.tmp t) = ev G fr (.tmp t)) := by
  unfold putE at he
  split at he
  · simp only [Option.some.injEq] at he
    subst he
    exact ⟨fun h => (by cases h), fun _ => rfl⟩
  · rename_i d
    split at he
    · rename_i hd
      obtain ⟨h1, h2⟩ := Tr.set_get _ _ _ _ _ he
      refine ⟨fun h => ?_, fun h => ?_⟩
      · cases h
        exact ⟨by simp only [ev, h1], of_decide_eq_true hd⟩
      · simp only [ev]
        rw [h2 t (fun e => h (by rw [e]))]
    · cases he
theorem put_getD {a : Act} {d : Option Tmp} {u : Value} (t : Tmp) : (a.put d u).tmps.size = a.tmps.size ∧ (a.put d u).defers = a.defers ∧ (d ≠ some t → (a.put d u).tmps.getD t undef = a.tmps.getD t undef) ∧ (d = some t → t < a.tmps.size → (a.put d u).tmps.getD t undef = u) := by
  cases d with
  | none => exact ⟨rfl, rfl, fun _ => rfl, fun h => by cases h⟩
  | some d =>
    refine ⟨by simp [Act.put], rfl, fun h => ?_, fun h ht => ?_⟩
    · have hne : d ≠ t := fun e => h (by rw [e])
      simp [Act.put, Array.getElem?_setIfInBounds_ne hne]
    · cases h
      simp [Act.put, ht]
theorem putE_ok {φ : Phi} {G n : Nat} {fr fr' : Fr} {d : Option Tmp} {v : EV} {u : Value} {a : Act} (hf : FR φ G fr n a) (hv : VR φ v u) (he : putE n fr d v = some fr') : FR φ G fr' n (a.put d u) := by
  refine ⟨(put_getD 0).1.trans hf.size, fun t => ?_⟩
  obtain ⟨h1, h2⟩ := putE_ev (G := G) he t
  by_cases hd : d = some t
  · rw [(h1 hd).1, (put_getD t).2.2.2 hd (by rw [hf.size]; exact (h1 hd).2)]
    exact hv
  · rw [h2 hd, (put_getD t).2.2.1 hd]
    exact hf.val t

/-! ### Operations one behind the other -/

def opsE (P : Program) (G n : Nat) (call : CallE) (ops : Array Oper) : List Oper → Fr → H → Option (Fr × H)
  | [], fr, h => some (fr, h)
  | o :: l, fr, h => match valE P G n call ops o fr h with
    | some (v, h') => match putE n fr o.dst v with
      | some fr' => opsE P G n call ops l fr' h'
      | none => none
    | none => none
theorem opsE_hs {P : Program} {G n : Nat} {call : CallE} {ops : Array Oper} (hc : CallOk P G call) : ∀ {l : List Oper} {fr fr' : Fr} {h h' : H}, opsE P G n call ops l fr h = some (fr', h') → HS h h'
  | [], _, _, _, _, he => by
    simp only [opsE, Option.some.injEq, Prod.mk.injEq] at he
    obtain ⟨rfl, rfl⟩ := he
    exact .refl _
  | o :: l, fr, fr', h, h', he => by
    unfold opsE at he
    split at he
    · rename_i v h1 hv
      split at he
      · exact (valE_hs hc hv).trans (opsE_hs hc he)
      · cases he
    · cases he
theorem opsE_ok {P : Program} {G n : Nat} {call : CallE} {ops : Array Oper} (hc : CallOk P G call) {Q : Exit → Act → World → Prop} : ∀ {l : List Oper} {fr fr' : Fr} {h h' : H} {φ : Phi} {a : Act} {w : World}, WR φ h w → GR φ G → FR φ G fr n a →
    opsE P G n call ops l fr h = some (fr', h') → (∀ φ' a' w', FR φ' G fr' n a' → a'.defers = a.defers → Step φ h w φ' h' w' → Q .normal a' w') → wpList P ops Q l a w
  | [], fr, fr', h, h', φ, a, w, hw, hg, hf, he, hQ => by
    simp only [opsE, Option.some.injEq, Prod.mk.injEq] at he
    obtain ⟨rfl, rfl⟩ := he
    exact hQ φ a w hf rfl (.refl hw)
  | o :: l, fr, fr', h, h', φ, a, w, hw, hg, hf, he, hQ => by
    unfold opsE at he
    split at he
    · rename_i v h1 hv
      split at he
      · rename_i fr1 hp
        refine wpList_step fun K hK => valE_ok hc hw hg hf.size (fun t _ => hf.val t) hv K Q fun φ' u w' hu hs => hK _ _ ?_
        have hle := hs.le hw
        refine opsE_ok hc hs.wr (hg.mono hle) (putE_ok (hf.mono hle) hu hp) he fun φ2 a2 w2 hf2 hd2 hs2 => hQ φ2 a2 w2 hf2 (hd2.trans (put_getD 0).2.1) (hs.trans hs2)
      · cases he
    · cases he
end Go.Proofs.YtjcmbnpabkhcfaaGreatDoor.Eng
