import Derived.Test.YtjcmbnpabkhcfaaGreatDoorEngM
namespace Go.Proofs.YtjcmbnpabkhcfaaGreatDoor.Eng
open Go.RowKit
open Go Go.Proofs
set_option linter.unusedVariables false
set_option linter.unusedSimpArgs false

def frameE : List EV → Nat → Fr → Option Fr
  | [], _, fr => some fr
  | v :: l, n, fr => match fr.set depth n (some v) with
    | some fr' => frameE l (n + 1) fr'
    | none => none
theorem frameE_get : ∀ {l : List EV} {k : Nat} {fr fr' : Fr}, frameE l k fr = some fr' → ∀ t, (t < k → fr'.get t = fr.get t) ∧ (k + l.length ≤ t → fr'.get t = fr.get t) ∧ (∀ j, j < l.length → t = k + j → fr'.get t = l[j]?)
  | [], k, fr, fr', h, t => by
    simp only [frameE, Option.some.injEq] at h
    subst h
    exact ⟨fun _ => rfl, fun _ => rfl, fun j hj => absurd hj (by simp)⟩
  | v :: l, k, fr, fr', h, t => by
    unfold frameE at h
    split at h
    · rename_i fr1 h1
      obtain ⟨s1, s2⟩ := Tr.set_get _ _ _ _ _ h1
      obtain ⟨a, b, c⟩ := frameE_get h t
      refine ⟨fun ht => by rw [a (by omega), s2 t (by omega)], fun ht => by simp at ht; rw [b (by omega), s2 t (by omega)], fun j hj ht => ?_⟩
      cases j with
      | zero =>
        subst ht
        rw [a (by omega)]
        simpa using s1
      | succ j =>
        have := c j (by simpa using hj) (by omega)
        rw [this]
        simp
    · cases h
theorem frameE_ok {φ : Phi} {G n : Nat} {args : List EV} {vs : List Value} {fr : Fr} (hv : VRs φ args vs) (hn : args.length ≤ n) (h : frameE args 0 .nil = some fr) :
    FR φ G fr n { tmps := (⟨vs⟩ : Array Value) ++ Array.replicate (n - (⟨vs⟩ : Array Value).size) undef, defers := [] } := by
  have hl := hv.length
  refine ⟨by simp; omega, fun (t : Nat) => ?_⟩
  obtain ⟨_, b, c⟩ := frameE_get h t
  by_cases ht : t < args.length
  · have h1 := c t ht (by omega)
    obtain ⟨v, hv1, hv2⟩ := hv.get (List.getElem?_eq_getElem ht)
    have h2 : ev G fr (.tmp t) = args[t] := by
      simp only [ev, h1, List.getElem?_eq_getElem ht]
    rw [h2]
    have h3 : ((⟨vs⟩ : Array Value) ++ Array.replicate (n - (⟨vs⟩ : Array Value).size) undef).getD t undef = v := by
      rw [Array.getD_eq_getD_getElem?, Array.getElem?_append_left (by simp; omega)]
      simp [hv1]
    rw [h3]
    exact hv2
  · have h1 := b (by omega)
    have h2 : ev G fr (.tmp t) = .sc undef := by
      simp only [ev, h1, Tr.get_nil]
    rw [h2]
    have h3 : ((⟨vs⟩ : Array Value) ++ Array.replicate (n - (⟨vs⟩ : Array Value).size) undef).getD t undef = undef := by
      rw [Array.getD_eq_getD_getElem?, Array.getElem?_append_right (by simp; omega)]
      rw [Array.getElem?_replicate]
      split <;> rfl
    rw [h3]
    exact .sc

def resE (P : Program) (G : Nat) (fr : Fr) (h : H) : List ResultVar → Option (List EV)
  | [] => some []
  | .tmp t :: l => match resE P G fr h l with
    | some r => some (ev G fr (.tmp t) :: r)
    | none => none
  | .cell a t :: l => match eLoad P h t (ev G fr (.tmp a)), resE P G fr h l with
    | some v, some r => some (v :: r)
    | _, _ => none

def resOne (tmps : Array Value) : ResultVar → Sem Value
  | .tmp t => pure (tmps.getD t undef)
  | .cell a t => do loadVar t (← asAddr (tmps.getD a undef))
theorem resE_ok {P : Program} {φ : Phi} {G n : Nat} {fr : Fr} {h : H} {a : Act} {w : World} (hw : WR φ h w) (hf : FR φ G fr n a) : ∀ {l : List ResultVar} {es : List EV}, resE P G fr h l = some es →
    ∃ vs, (l.mapM (resOne a.tmps)).run P w = .ok vs w ∧ VRs φ es vs
  | [], _, he => by
    simp only [resE, Option.some.injEq] at he
    subst he
    exact ⟨[], by simp, .nil⟩
  | .tmp t :: l, es, he => by
    unfold resE at he
    split at he
    · rename_i r hr
      simp only [Option.some.injEq] at he
      subst he
      obtain ⟨vs, h1, h2⟩ := resE_ok hw hf hr
      exact ⟨a.tmps.getD t undef :: vs, by simp [List.mapM_cons, resOne, h1], .cons (hf.val t) h2⟩
    · cases he
  | .cell p t :: l, es, he => by
    unfold resE at he
    split at he
    · rename_i v r hv hr
      simp only [Option.some.injEq] at he
      subst he
      obtain ⟨vs, h1, h2⟩ := resE_ok hw hf hr
      have hp := hf.val p
      obtain ⟨u, h3, h4⟩ := eLoad_ok (P := P) hw hp hv
      refine ⟨u :: vs, ?_, .cons h4 h2⟩
      have h5 : (resOne a.tmps (.cell p t)).run P w = .ok u w := by
        have hptr : ∃ ad, a.tmps.getD p undef = .pointer (some ad) := by
          generalize hq : a.tmps.getD p undef = q at hp
          unfold eLoad at hv
          split at hv
          · rename_i i o hev
            rw [hev] at hp
            cases hp
            exact ⟨_, rfl⟩
          · cases hv
        obtain ⟨ad, had⟩ := hptr
        rw [had] at h3
        simp only [Instr.loadAt, Instr.sureAddr, Sem.run_bind, Sem.run_pure, Result.andThen_ok] at h3
        simp only [resOne, had, asAddr, Sem.run_bind, Sem.run_pure, Result.andThen_ok, h3]
      simp [List.mapM_cons, h5, h1]
    · cases he
theorem results_eq (fn : Func) (tmps : Array Value) : results fn tmps = (do
    let vs ← fn.results.mapM (resOne tmps)
    pure (if h : vs.size = 1 then vs[0] else .tuple vs)) := by
  unfold results
  congr 1
def packV : List Value → Value
  | [v] => v
  | l => .tuple ⟨l⟩
theorem results_run {P : Program} {fn : Func} {tmps : Array Value} {vs : List Value} {w : World} (h : (fn.results.toList.mapM (resOne tmps)).run P w = .ok vs w) :
    (results fn tmps).run P w = .ok (packV vs) w := by
  rw [results_eq]
  have e : fn.results.mapM (resOne tmps) = List.toArray <$> fn.results.toList.mapM (resOne tmps) := by
    rw [← List.mapM_toArray]
  rw [e]
  simp only [map_eq_pure_bind, bind_assoc, pure_bind, Sem.run_bind, h, Result.andThen_ok, Sem.run_pure]
  rcases vs with _ | ⟨v, _ | ⟨u, l⟩⟩ <;> simp [packV]

def packE : List EV → EV
  | [v] => v
  | l => .tup l
theorem packE_ok {φ : Phi} {es : List EV} {vs : List Value} (h : VRs φ es vs) : VR φ (packE es) (packV vs) := by
  cases h with
  | nil => exact .tup .nil
  | cons a b =>
    cases b with
    | nil => exact a
    | cons c d => exact .tup (.cons a (.cons c d))

/-- A call, so many calls deep, each piece of code so many steps. -/
def runE (P : Program) (G S : Nat) (ext : CallE) : Nat → CallE
  | 0, _, _, _ => none
  | f + 1, g, args, h => match ext g args h with
    | some r => some r
    | none => match P.funcs[g]? with
      | none => none
      | some fn => match fn.body with
        | none => none
        | some c => match decide (args.length ≤ fn.ntmps), frameE args 0 .nil with
          | true, some fr => match codeE P G fn.ntmps (runE P G S ext f) S none c fr h with
            | some (.normal, fr', h') => match resE P G fr' h' fn.results.toList with
              | some es => some (packE es, h')
              | none => none
            | some (.ret, fr', h') => match resE P G fr' h' fn.results.toList with
              | some es => some (packE es, h')
              | none => none
            | _ => none
          | _, _ => none

theorem runE_ok {P : Program} {G S : Nat} {ext : CallE} (hmx : P.follows .mixedOrders = true) (hx : CallOk P G ext) : ∀ f, CallOk P G (runE P G S ext f)
  | 0 => ⟨fun _ _ _ _ _ he => by simp [runE] at he, fun _ _ _ _ _ he => by simp [runE] at he⟩
  | f + 1 => by
    have ih := runE_ok (S := S) hmx hx f
    refine ⟨fun g args h v h' he φ w vs hw hg hv => ?_, fun g args h v h' he => ?_⟩
    · unfold runE at he
      split at he
      · rename_i r hr
        simp only [Option.some.injEq] at he
        subst he
        exact hx.run _ _ _ _ _ hr φ w vs hw hg hv
      · split at he
        · cases he
        · rename_i fn hfn
          split at he
          · cases he
          · rename_i c hb
            split at he
            · rename_i fr hn hfr
              have hn := of_decide_eq_true hn
              have fin : ∀ (out : Out) (fr' : Fr) (h1 : H), (out = .normal ∨ out = .ret) → codeE P G fn.ntmps (runE P G S ext f) S none c fr h = some (out, fr', h1) → (match resE P G fr' h1 fn.results.toList with
                  | some es => some (packE es, h1)
                  | none => none) = some (v, h') → Calls P g ⟨vs⟩ w fun e w' => ∃ u φ', e = .returned u ∧ VR φ' v u ∧ Step φ h w φ' h' w' := by
                intro out fr' h1 hout hcode hres
                split at hres
                · rename_i es hes
                  simp only [Option.some.injEq, Prod.mk.injEq] at hres
                  obtain ⟨rfl, rfl⟩ := hres
                  refine calls_of_wp hfn hb ((codeE_ok hmx ih S).1 _ _ _ _ _ _ hcode φ _ w _ hw hg (frameE_ok hv hn hfr) fun φ1 a1 w1 hf1 hd1 hs1 => ?_)
                  obtain ⟨us, r1, r2⟩ := resE_ok (P := P) hs1.wr hf1 hes
                  have r3 := results_run r1
                  have r4 := packE_ok r2
                  rcases hout with rfl | rfl
                  · exact ⟨hd1, _, r3, _, φ1, rfl, r4, hs1⟩
                  · exact ⟨hd1, _, r3, _, φ1, rfl, r4, hs1⟩
                · cases hres
              split at he
              · rename_i fr' h1 hcode
                exact fin _ _ _ (.inl rfl) hcode he
              · rename_i fr' h1 hcode
                exact fin _ _ _ (.inr rfl) hcode he
              · cases he
            · cases he
    · unfold runE at he
      split at he
      · rename_i r hr
        simp only [Option.some.injEq] at he
        subst he
        exact hx.hs _ _ _ _ _ hr
      · repeat' split at he
        all_goals first
          | cases he; done
          | (simp only [Option.some.injEq, Prod.mk.injEq] at he; obtain ⟨_, rfl⟩ := he; exact codeE_hs ih _ _ _ _ _ _ _ _ (by assumption))

def noExt : CallE := fun _ _ _ => none
theorem noExt_ok (P : Program) (G : Nat) : CallOk P G noExt := ⟨fun _ _ _ _ _ he => (by cases he), fun _ _ _ _ _ he => (by cases he)⟩
end Go.Proofs.YtjcmbnpabkhcfaaGreatDoor.Eng
