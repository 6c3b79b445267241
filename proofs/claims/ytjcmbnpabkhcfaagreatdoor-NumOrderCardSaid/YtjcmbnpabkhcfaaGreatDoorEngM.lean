import Derived.Test.YtjcmbnpabkhcfaaGreatDoorEngL2
namespace Go.Proofs.YtjcmbnpabkhcfaaGreatDoor.Eng
open Go.RowKit
open Go Go.Proofs
set_option linter.unusedVariables false
set_option linter.unusedSimpArgs false

inductive Out where
  | normal
  | ret
  | exit (id : Nat)
  | goto (l : Nat)
def Out.exit' : Out → Exit
  | .normal => .normal
  | .ret => .ret
  | .exit id => .exit id
  | .goto l => .goto l

/-- So many jumps within a scope. -/
def scopePost (c : Code) (J : Code → Act → World → Prop) (Q : Exit → Act → World → Prop) : Exit → Act → World → Prop
  | .goto l, a, w => match findLabel c l with
    | some rest => J rest a w
    | none => Q (.goto l) a w
  | e, a, w => Q e a w
def scopeRounds (P : Program) (c : Code) (Q : Exit → Act → World → Prop) : Nat → Code → Act → World → Prop
  | 0, _, _, _ => False
  | n + 1, x, a, w => x.wp P (scopePost c (scopeRounds P c Q n) Q) a w
theorem wp_scope_rounds {P : Program} {Q : Exit → Act → World → Prop} {a : Act} {w : World} {c : Code} (n : Nat) (h : scopeRounds P c Q n c a w) : (Code.scope c).wp P Q a w := by
  intro b k cs
  have key : ∀ n x a w, scopeRounds P c Q n x a w → ∃ e a' w', Q e a' w' ∧ Arrives P (lone (b.at a (.code x :: .inScope c :: k)) cs w) b k cs e a' w' := by
    intro n
    induction n with
    | zero => intro x a w h; exact h.elim
    | succ n ih =>
      intro x a w h
      obtain ⟨e, a₁, w₁, hq, harr⟩ := h b (.inScope c :: k) cs
      cases e with
      | normal => exact ⟨.normal, a₁, w₁, hq, Steps.trans harr (.one step_inScope)⟩
      | exit id => exact ⟨.exit id, a₁, w₁, hq, fun k' hk => harr k' (by simp [exitTo, hk])⟩
      | goto l =>
        unfold scopePost at hq
        simp only at hq
        split at hq
        · rename_i rest hf
          have hg : gotoIn l (.inScope c :: k) = some (.code rest :: .inScope c :: k) := by simp [gotoIn, hf]
          obtain ⟨e₂, a₂, w₂, hq₂, harr₂⟩ := ih _ _ _ hq
          exact ⟨e₂, a₂, w₂, hq₂, .of_steps (harr _ hg) harr₂⟩
        · rename_i hf
          exact ⟨.goto l, a₁, w₁, hq, fun k' hk => harr k' (by simp [gotoIn, hf, hk])⟩
      | ret => exact ⟨_, a₁, w₁, hq, harr⟩
      | panic ch => exact ⟨_, a₁, w₁, hq, harr⟩
      | outgrown => exact ⟨_, a₁, w₁, hq, harr⟩
  obtain ⟨e, a', w', hq, harr⟩ := key n c a w h
  exact ⟨e, a', w', hq, .of_steps (.one step_scope) harr⟩

def codeE (P : Program) (G n : Nat) (call : CallE) : Nat → Option Code → Code → Fr → H → Option (Out × Fr × H)
  | 0, _, _, _, _ => none
  | f + 1, some c, x, fr, h => match codeE P G n call f none x fr h with
    | some (.goto l, fr', h') => match findLabel c l with
      | some rest => codeE P G n call f (some c) rest fr' h'
      | none => some (.goto l, fr', h')
    | r => r
  | f + 1, none, c, fr, h => match c with
    | .skip => some (.normal, fr, h)
    | .label _ => some (.normal, fr, h)
    | .ret => some (.ret, fr, h)
    | .exit id => some (.exit id, fr, h)
    | .goto l => some (.goto l, fr, h)
    | .region _ ops false => match opsE P G n call ops ops.toList fr h with
      | some (fr', h') => some (.normal, fr', h')
      | none => none
    | .region _ ops true => match drawE P G n call ops fr h with
      | some (fr', h') => some (.normal, fr', h')
      | none => none
    | .seq x y => match codeE P G n call f none x fr h with
      | some (.normal, fr', h') => codeE P G n call f none y fr' h'
      | r => r
    | .block id c => match codeE P G n call f none c fr h with
      | some (.exit id', fr', h') => match decide (id' = id) with
        | true => some (.normal, fr', h')
        | false => some (.exit id', fr', h')
      | r => r
    | .loop c => match codeE P G n call f none c fr h with
      | some (.normal, fr', h') => codeE P G n call f none (.loop c) fr' h'
      | r => r
    | .cond c x y => match ev G fr c with
      | .sc (.bool true) => codeE P G n call f none x fr h
      | .sc (.bool false) => codeE P G n call f none y fr h
      | _ => none
    | .scope c => codeE P G n call f (some c) c fr h
    | _ => none

theorem codeE_hs {P : Program} {G n : Nat} {call : CallE} (hc : CallOk P G call) : ∀ (f : Nat) (sc : Option Code) (c : Code) (fr fr' : Fr) (h h' : H) (out : Out), codeE P G n call f sc c fr h = some (out, fr', h') → HS h h'
  | 0, _, _, _, _, _, _, _, he => by simp [codeE] at he
  | f + 1, some c, x, fr, fr', h, h', out, he => by
    have ih := codeE_hs (n := n) hc f
    rw [codeE] at he
    split at he
    · rename_i l fr1 h1 hx
      split at he
      · exact (ih _ _ _ _ _ _ _ hx).trans (ih _ _ _ _ _ _ _ he)
      · simp only [Option.some.injEq, Prod.mk.injEq] at he
        obtain ⟨_, _, rfl⟩ := he
        exact ih _ _ _ _ _ _ _ hx
    · exact ih _ _ _ _ _ _ _ he
  | f + 1, none, c, fr, fr', h, h', out, he => by
    have ih := codeE_hs (n := n) hc f
    unfold codeE at he
    repeat' split at he
    all_goals first
      | cases he; done
      | (simp only [Option.some.injEq, Prod.mk.injEq] at he; obtain ⟨_, _, rfl⟩ := he; first | exact .refl _ | exact opsE_hs hc (by assumption) | exact drawE_hs hc (by assumption) | exact ih _ _ _ _ _ _ _ (by assumption))
      | exact ih _ _ _ _ _ _ _ he
      | exact (ih _ _ _ _ _ _ _ (by assumption)).trans (ih _ _ _ _ _ _ _ he)

/-- What a piece of code owes. -/
def Good (P : Program) (G n : Nat) (R : (Exit → Act → World → Prop) → Act → World → Prop) (fr : Fr) (h : H) (out : Out) (fr' : Fr) (h' : H) : Prop :=
  ∀ (φ : Phi) (a : Act) (w : World) (Q : Exit → Act → World → Prop), WR φ h w → GR φ G → FR φ G fr n a →
    (∀ φ' a' w', FR φ' G fr' n a' → a'.defers = a.defers → Step φ h w φ' h' w' → Q out.exit' a' w') → R Q a w

theorem codeE_ok {P : Program} {G n : Nat} {call : CallE} (hmx : P.follows .mixedOrders = true) (hc : CallOk P G call) : ∀ (f : Nat),
    (∀ c fr h out fr' h', codeE P G n call f none c fr h = some (out, fr', h') → Good P G n (fun Q a w => c.wp P Q a w) fr h out fr' h') ∧
    (∀ c fr h out fr' h', codeE P G n call f none (.loop c) fr h = some (out, fr', h') → Good P G n (fun Q a w => Code.rounds P c Q f a w) fr h out fr' h') ∧
    (∀ c x fr h out fr' h', codeE P G n call f (some c) x fr h = some (out, fr', h') → Good P G n (fun Q a w => scopeRounds P c Q f x a w) fr h out fr' h')
  | 0 => ⟨fun _ _ _ _ _ _ he => by simp [codeE] at he, fun _ _ _ _ _ _ he => by simp [codeE] at he, fun _ _ _ _ _ _ _ he => by simp [codeE] at he⟩
  | f + 1 => by
    obtain ⟨ih, ihl, ihs⟩ := codeE_ok hmx hc f
    have hloop : ∀ c fr h out fr' h', codeE P G n call (f + 1) none (.loop c) fr h = some (out, fr', h') → Good P G n (fun Q a w => Code.rounds P c Q (f + 1) a w) fr h out fr' h' := by
      intro c fr h out fr' h' he φ a w Q hw hg hf hQ
      simp only [codeE] at he
      rw [rounds_succ]
      split at he
      · rename_i fr1 h1 hx
        refine ih _ _ _ _ _ _ hx φ a w _ hw hg hf fun φ1 a1 w1 hf1 hd1 hs1 => ?_
        exact ihl _ _ _ _ _ _ he φ1 a1 w1 Q hs1.wr (hg.mono (hs1.le hw)) hf1 fun φ2 a2 w2 hf2 hd2 hs2 => hQ φ2 a2 w2 hf2 (hd2.trans hd1) (hs1.trans hs2)
      · rename_i hno
        refine ih _ _ _ _ _ _ he φ a w _ hw hg hf fun φ1 a1 w1 hf1 hd1 hs1 => ?_
        have := hQ φ1 a1 w1 hf1 hd1 hs1
        cases out with
        | normal => exact absurd he (hno _ _)
        | ret => exact this
        | exit id => exact this
        | goto l => exact this
    refine ⟨?_, hloop, ?_⟩
    · intro c fr h out fr' h' he φ a w Q hw hg hf hQ
      cases c with
      | skip =>
        simp only [codeE, Option.some.injEq, Prod.mk.injEq] at he
        obtain ⟨rfl, rfl, rfl⟩ := he
        exact wp_skip (hQ φ a w hf rfl (.refl hw))
      | label l =>
        simp only [codeE, Option.some.injEq, Prod.mk.injEq] at he
        obtain ⟨rfl, rfl, rfl⟩ := he
        exact wp_label (hQ φ a w hf rfl (.refl hw))
      | ret =>
        simp only [codeE, Option.some.injEq, Prod.mk.injEq] at he
        obtain ⟨rfl, rfl, rfl⟩ := he
        exact wp_ret (hQ φ a w hf rfl (.refl hw))
      | exit id =>
        simp only [codeE, Option.some.injEq, Prod.mk.injEq] at he
        obtain ⟨rfl, rfl, rfl⟩ := he
        exact wp_exit (hQ φ a w hf rfl (.refl hw))
      | goto l =>
        simp only [codeE, Option.some.injEq, Prod.mk.injEq] at he
        obtain ⟨rfl, rfl, rfl⟩ := he
        exact wp_goto (hQ φ a w hf rfl (.refl hw))
      | region id ops draw =>
        cases draw with
        | false =>
          simp only [codeE] at he
          split at he
          · rename_i fr1 h1 hx
            simp only [Option.some.injEq, Prod.mk.injEq] at he
            obtain ⟨rfl, rfl, rfl⟩ := he
            exact wp_region_list (opsE_ok hc hw hg hf hx hQ)
          · cases he
        | true =>
          simp only [codeE] at he
          split at he
          · rename_i fr1 h1 hx
            simp only [Option.some.injEq, Prod.mk.injEq] at he
            obtain ⟨rfl, rfl, rfl⟩ := he
            exact drawE_ok hmx hc hw hg hf hx hQ id
          · cases he
      | seq x y =>
        simp only [codeE] at he
        split at he
        · rename_i fr1 h1 hx
          refine wp_seq (ih _ _ _ _ _ _ hx φ a w _ hw hg hf fun φ1 a1 w1 hf1 hd1 hs1 => ?_)
          exact ih _ _ _ _ _ _ he φ1 a1 w1 Q hs1.wr (hg.mono (hs1.le hw)) hf1 fun φ2 a2 w2 hf2 hd2 hs2 => hQ φ2 a2 w2 hf2 (hd2.trans hd1) (hs1.trans hs2)
        · rename_i hno
          refine wp_seq (ih _ _ _ _ _ _ he φ a w _ hw hg hf fun φ1 a1 w1 hf1 hd1 hs1 => ?_)
          have := hQ φ1 a1 w1 hf1 hd1 hs1
          cases out with
          | normal => exact absurd he (hno _ _)
          | ret => exact this
          | exit id => exact this
          | goto l => exact this
      | block id c =>
        simp only [codeE] at he
        split at he
        · rename_i id' fr1 h1 hx
          split at he
          · rename_i hd
            simp only [Option.some.injEq, Prod.mk.injEq] at he
            obtain ⟨rfl, rfl, rfl⟩ := he
            refine wp_block (ih _ _ _ _ _ _ hx φ a w _ hw hg hf fun φ1 a1 w1 hf1 hd1 hs1 => ?_)
            simp only [Out.exit', Exit.inBlock]
            rw [if_pos (of_decide_eq_true hd)]
            exact hQ φ1 a1 w1 hf1 hd1 hs1
          · rename_i hd
            simp only [Option.some.injEq, Prod.mk.injEq] at he
            obtain ⟨rfl, rfl, rfl⟩ := he
            refine wp_block (ih _ _ _ _ _ _ hx φ a w _ hw hg hf fun φ1 a1 w1 hf1 hd1 hs1 => ?_)
            simp only [Out.exit', Exit.inBlock]
            rw [if_neg (of_decide_eq_false hd)]
            exact hQ φ1 a1 w1 hf1 hd1 hs1
        · rename_i hno
          refine wp_block (ih _ _ _ _ _ _ he φ a w _ hw hg hf fun φ1 a1 w1 hf1 hd1 hs1 => ?_)
          have := hQ φ1 a1 w1 hf1 hd1 hs1
          cases out with
          | normal => exact this
          | ret => exact this
          | exit id => exact absurd he (hno _ _ _)
          | goto l => exact this
      | loop c => exact wp_loop_rounds (f + 1) (hloop c fr h out fr' h' he φ a w Q hw hg hf hQ)
      | cond c x y =>
        simp only [codeE] at he
        have hcv := ev_rel hg hf c
        split at he
        · rename_i hcc
          rw [hcc] at hcv
          generalize hv : a.eval c = v at hcv
          cases hcv
          exact wp_cond_true hv (ih _ _ _ _ _ _ he φ a w Q hw hg hf hQ)
        · rename_i hcc
          rw [hcc] at hcv
          generalize hv : a.eval c = v at hcv
          cases hcv
          exact wp_cond_false hv (ih _ _ _ _ _ _ he φ a w Q hw hg hf hQ)
        · cases he
      | scope c =>
        simp only [codeE] at he
        exact wp_scope_rounds f (ihs _ _ _ _ _ _ _ he φ a w Q hw hg hf hQ)
      | rangeFunc a b c d => simp [codeE] at he
      | refuse s => simp [codeE] at he
    · intro c x fr h out fr' h' he φ a w Q hw hg hf hQ
      rw [codeE] at he
      unfold scopeRounds
      split at he
      · rename_i l fr1 h1 hx
        split at he
        · rename_i rest hl
          refine ih _ _ _ _ _ _ hx φ a w _ hw hg hf fun φ1 a1 w1 hf1 hd1 hs1 => ?_
          simp only [Out.exit', scopePost, hl]
          exact ihs _ _ _ _ _ _ _ he φ1 a1 w1 Q hs1.wr (hg.mono (hs1.le hw)) hf1 fun φ2 a2 w2 hf2 hd2 hs2 => hQ φ2 a2 w2 hf2 (hd2.trans hd1) (hs1.trans hs2)
        · rename_i hl
          simp only [Option.some.injEq, Prod.mk.injEq] at he
          obtain ⟨rfl, rfl, rfl⟩ := he
          refine ih _ _ _ _ _ _ hx φ a w _ hw hg hf fun φ1 a1 w1 hf1 hd1 hs1 => ?_
          simp only [Out.exit', scopePost, hl]
          exact hQ φ1 a1 w1 hf1 hd1 hs1
      · rename_i hno
        refine ih _ _ _ _ _ _ he φ a w _ hw hg hf fun φ1 a1 w1 hf1 hd1 hs1 => ?_
        have := hQ φ1 a1 w1 hf1 hd1 hs1
        cases out with
        | normal => exact this
        | ret => exact this
        | exit id => exact this
        | goto l => exact absurd he (hno _ _ _)
end Go.Proofs.YtjcmbnpabkhcfaaGreatDoor.Eng
