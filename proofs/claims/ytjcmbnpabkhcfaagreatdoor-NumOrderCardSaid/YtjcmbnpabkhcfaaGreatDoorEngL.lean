import Derived.Test.YtjcmbnpabkhcfaaGreatDoorEngK
import Derived.Scope
import Derived.ScopeJumps
namespace Go.Proofs.YtjcmbnpabkhcfaaGreatDoor.Eng
open Go.RowKit
open Go Go.Proofs
set_option linter.unusedVariables false
set_option linter.unusedSimpArgs false

def cntL (A : Array Bool) : List (Nat × Oper) → Nat
  | [] => 0
  | p :: l => cntL A l + (if A.getD p.1 false = true then 0 else 1)
theorem cntL_zero {A : Array Bool} : ∀ {l : List (Nat × Oper)}, cntL A l = 0 → ∀ p ∈ l, A.getD p.1 false = true
  | [], _, p, hp => by cases hp
  | q :: l, h, p, hp => by
    unfold cntL at h
    by_cases hq : A.getD q.1 false = true
    · rcases List.mem_cons.1 hp with rfl | hp
      · exact hq
      · exact cntL_zero (l := l) (by omega) p hp
    · rw [if_neg hq] at h
      omega
theorem cntL_notin {A : Array Bool} {i : Nat} : ∀ {l : List (Nat × Oper)}, (∀ p ∈ l, i ≠ p.1) → cntL (A.setIfInBounds i true) l = cntL A l
  | [], _ => rfl
  | q :: l, h => by
    unfold cntL
    rw [cntL_notin fun p hp => h p (by simp [hp]), getD_set_ne false (h q (by simp))]
theorem cntL_in {A : Array Bool} {i : Nat} (hi : i < A.size) (hu : A.getD i false = false) : ∀ {l : List (Nat × Oper)}, (l.map (·.1)).Nodup → (∃ p ∈ l, p.1 = i) → cntL (A.setIfInBounds i true) l + 1 = cntL A l
  | [], _, ⟨_, h, _⟩ => by cases h
  | q :: l, hn, ⟨p, hp, hpi⟩ => by
    rw [List.map_cons, List.nodup_cons] at hn
    unfold cntL
    by_cases hq : q.1 = i
    · have hnot : ∀ p ∈ l, i ≠ p.1 := fun p' hp' e => hn.1 (by rw [hq, e]; exact List.mem_map_of_mem hp')
      rw [cntL_notin hnot, hq, hu]
      have e : (A.setIfInBounds i true).getD i false = true := by simp [hi]
      rw [e]
      simp
    · rw [getD_set_ne false (fun e => hq e.symm)]
      have hp' : p ∈ l := by
        rcases List.mem_cons.1 hp with rfl | h
        · exact (hq hpi).elim
        · exact h
      have := cntL_in hi hu hn.2 ⟨p, hp', hpi⟩
      omega
theorem least_un {A : Array Bool} : ∀ {l : List (Nat × Oper)}, cntL A l ≠ 0 → ∃ (k i : Nat) (o : Oper), l[k]? = some (i, o) ∧ A.getD i false = false ∧ ∀ (j i' : Nat) (o' : Oper), j < k → l[j]? = some (i', o') → A.getD i' false = true
  | [], h => absurd rfl h
  | (i, o) :: l, h => by
    by_cases hq : A.getD i false = true
    · obtain ⟨k, i', o', h1, h2, h3⟩ := least_un (l := l) (A := A) (by simpa [cntL, hq] using h)
      refine ⟨k + 1, i', o', by simpa using h1, h2, fun j i2 o2 hj hj2 => ?_⟩
      cases j with
      | zero =>
        simp only [List.getElem?_cons_zero, Option.some.injEq, Prod.mk.injEq] at hj2
        obtain ⟨rfl, rfl⟩ := hj2
        exact hq
      | succ j => exact h3 j i2 o2 (by omega) (by simpa using hj2)
    · exact ⟨0, i, o, rfl, by simpa using hq, fun j _ _ hj => absurd hj (by omega)⟩
theorem headOk_nodup {ops : Array Oper} : ∀ {l : List (Nat × Oper)} {pre : List Nat}, headOk ops pre l = true → (l.map (·.1)).Nodup
  | [], _, _ => List.nodup_nil
  | (i, o) :: l, pre, h => by
    unfold headOk at h
    split at h
    · split at h
      · rename_i h2
        rw [List.map_cons, List.nodup_cons]
        refine ⟨fun hm => ?_, headOk_nodup h⟩
        obtain ⟨p, hp, he⟩ := List.mem_map.1 hm
        exact (pairsOk_spec h2 p hp).1 he.symm
      · cases h
    · cases h

def listedH (ops : Array Oper) (L : List (Nat × Oper)) : Array Bool := L.foldl (fun A p => A.setIfInBounds p.1 true) (Array.replicate ops.size false)
theorem fold_listed : ∀ (L : List (Nat × Oper)) (A : Array Bool), (L.foldl (fun A p => A.setIfInBounds p.1 true) A).size = A.size ∧ ∀ i, i < A.size → (L.foldl (fun A p => A.setIfInBounds p.1 true) A).getD i false = (A.getD i false || L.any fun p => p.1 == i)
  | [], A => ⟨rfl, fun i _ => by simp⟩
  | p :: L, A => by
    obtain ⟨h1, h2⟩ := fold_listed L (A.setIfInBounds p.1 true)
    simp only [List.foldl_cons]
    refine ⟨by rw [h1]; simp, fun i hi => ?_⟩
    rw [h2 i (by simpa using hi)]
    by_cases hp : p.1 = i
    · subst hp
      simp [hi]
    · rw [getD_set_ne false hp]
      have : (p.1 == i) = false := by simpa using hp
      simp [this]

def needs (t0 : Oper) : List (Nat × Oper) → List (Nat × Oper)
  | [] => []
  | p :: l => match waits t0 p.1 || (needs t0 l).any (fun q => waits q.2 p.1) with
    | true => p :: needs t0 l
    | false => needs t0 l
theorem needs_spec {ops : Array Oper} {t0 : Oper} {A : Array Bool} (h0 : ∀ e ∈ t0.after, Region.binds .any e = true → A.getD e.on false = true)
    (hcl : ∀ j oj, ops[j]? = some oj → A.getD j false = true → ∀ e ∈ oj.after, Region.binds .any e = true → A.getD e.on false = true) :
    ∀ {l : List (Nat × Oper)}, (∀ p ∈ l, ops[p.1]? = some p.2) → ∀ p ∈ needs t0 l, p ∈ l ∧ A.getD p.1 false = true
  | [], _, p, hp => by cases hp
  | q :: l, ho, p, hp => by
    have ih := needs_spec h0 hcl (l := l) fun p hp => ho p (by simp [hp])
    unfold needs at hp
    split at hp
    · rename_i hq
      rcases List.mem_cons.1 hp with rfl | hp
      · refine ⟨by simp, ?_⟩
        rw [Bool.or_eq_true] at hq
        rcases hq with hq | hq
        · obtain ⟨e, he, hb, hon⟩ := waits_spec hq
          rw [← hon]
          exact h0 e he hb
        · obtain ⟨q', hq1, hq2⟩ := List.any_eq_true.1 hq
          obtain ⟨e, he, hb, hon⟩ := waits_spec hq2
          obtain ⟨a, b⟩ := ih q' hq1
          rw [← hon]
          exact hcl q'.1 q'.2 (ho q' (by simp [a])) b e he hb
      · obtain ⟨a, b⟩ := ih p hp
        exact ⟨by simp [a], b⟩
    · obtain ⟨a, b⟩ := ih p hp
      exact ⟨by simp [a], b⟩

def pureFree (ops : Array Oper) (i : Nat) (o : Oper) : Bool := (List.range ops.size).all fun j => j == i || match ops[j]? with
  | some oj => waits oj i || waits o j || o.apart ops oj
  | none => true
def chainT (ops : Array Oper) (T : List (Nat × Oper)) : Bool := T.tail.all fun q => T.any fun p => waits q.2 p.1
def tmpKind : Op → Bool
  | .move _ => true
  | .assign _ => true
  | .extract .. => true
  | _ => false
def freeAt (ops : Array Oper) (A : Array Bool) (i : Nat) (o : Oper) : Bool := (List.range ops.size).all fun j => j == i || A.getD j true || match ops[j]? with
  | some oj => waits oj i || o.apart ops oj
  | none => true
def seqT (ops : Array Oper) : List (Nat × Oper) → Array Bool → Bool
  | [], A => (Region.ready .any ops A).isEmpty
  | p :: l, A => match decide (Region.ready .any ops A = [p.1]) || (tmpKind p.2.op && (Region.ready .any ops A).contains p.1 && freeAt ops A p.1 p.2) with
    | true => seqT ops l (A.setIfInBounds p.1 true)
    | false => false
def isOps (ops : Array Oper) : List (Nat × Oper) → Bool
  | [] => true
  | p :: l => decide (p.1 < ops.size) && isOps ops l
def drawOk (ops : Array Oper) (L T : List (Nat × Oper)) : Bool :=
  headOk ops [] L && decide (L.length + T.length = ops.size) && Region.noSelect ops &&
  (List.range ops.size).all (fun i => L.any (·.1 == i) || T.any (·.1 == i)) && T.all (fun p => !L.any (·.1 == p.1)) &&
  (match T with
   | [] => true
   | t :: _ => L.all fun p => pureKind p.2.op || (needs t.2 L).any (·.1 == p.1)) &&
  L.all (fun p => !pureKind p.2.op || pureFree ops p.1 p.2) && chainT ops T && seqT ops T (listedH ops L)

structure HInv (ops : Array Oper) (T : List (Nat × Oper)) (A : Array Bool) : Prop where
  size : A.size = ops.size
  closed : ∀ j oj, ops[j]? = some oj → A.getD j false = true → ∀ e ∈ oj.after, Region.binds .any e = true → A.getD e.on false = true
  tail : ∀ p ∈ T, A.getD p.1 false = false

theorem chainT_spec {ops : Array Oper} {T : List (Nat × Oper)} (h : chainT ops T = true) {k : Nat} {q : Nat × Oper} (hq : T[k + 1]? = some q) : ∃ p ∈ T, waits q.2 p.1 = true := by
  cases T with
  | nil => cases hq
  | cons a T =>
    have h1 := List.all_eq_true.1 h q (List.mem_of_getElem? (by simpa using hq))
    obtain ⟨p, hp, hw⟩ := List.any_eq_true.1 h1
    exact ⟨p, hp, hw⟩

theorem tmp_yields {P : Program} {ops : Array Oper} {o : Oper} {a : Act} {w : World} {K : Act → World → Prop} {Q : Exit → Act → World → Prop} (hk : tmpKind o.op = true) (hQo : ¬ LetsOut Q)
    (h : if Region.wanted o (yielded ops a.tmps) then o.wp P a w K Q ∨ (o.asks P a w ∧ LetsOut Q) else K (a.put o.dst undef) w) : ∃ u, Yields P ops o u a ∧ K (a.put o.dst u) w := by
  split at h
  · rename_i hw
    have h := h.resolve_right fun h => hQo h.2
    obtain ⟨dst, op, type, pos, after, guard⟩ := o
    cases op with
    | move x => exact ⟨a.eval x, .inl ⟨hw, fun w => rfl⟩, h⟩
    | assign x => exact ⟨a.eval x, .inl ⟨hw, fun w => rfl⟩, h⟩
    | extract t k =>
      have key : ∀ q : Value, (∃ u, ∀ w, ((do pure (Next.value (← Instr.extract q k)) : Sem Next)).run P w = .ok (.value u) w) ∨ ∀ w, ∃ s w', ((do pure (Next.value (← Instr.extract q k)) : Sem Next)).run P w = .halt s w' ∧ ∀ v, s ≠ .panic v := by
        intro q
        by_cases hq : ∃ vs v, q = .tuple vs ∧ vs[k]? = some v
        · obtain ⟨vs, v, rfl, hv⟩ := hq
          refine .inl ⟨v, fun w => ?_⟩
          simp [Instr.extract, hv]
        · refine .inr fun w => ?_
          unfold Instr.extract
          split
          · rename_i vs
            split
            · rename_i v hv
              exact (hq ⟨vs, v, rfl, hv⟩).elim
            · exact ⟨_, _, rfl, fun v h => by cases h⟩
          · exact ⟨_, _, rfl, fun v h => by cases h⟩
      have h' : Oper.upon P { dst, op := .extract t k, type, pos, after, guard } a K Q (((do pure (Next.value (← Instr.extract (a.eval t) k)) : Sem Next)).run P w) := h
      rcases key (a.eval t) with ⟨u, hu⟩ | hn
      · rw [hu w] at h'
        exact ⟨u, .inl ⟨hw, hu⟩, h'⟩
      · obtain ⟨s, w', h1, h2⟩ := hn w
        rw [h1] at h'
        exfalso
        cases s with
        | panic v => exact h2 v rfl
        | _ => exact h'
    | _ => cases hk
  · rename_i hw
    exact ⟨undef, .inr ⟨by simpa using hw, rfl⟩, h⟩

section
variable {P : Program} {G n : Nat} {call : CallE} {ops : Array Oper} {L : List (Nat × Oper)} {F : Nat → Fr} {Hh : Nat → H} {V : Nat → EV}

theorem wpAny_of_seqT {Q : Exit → Act → World → Prop} (hns : Region.noSelect ops = true) (hQp : ∀ c a w, ¬ Q (.panic c) a w) (hQo : ¬ LetsOut Q) : ∀ (l : List (Nat × Oper)) (A : Array Bool) (a : Act) (w : World), (∀ p ∈ l, ops[p.1]? = some p.2) → seqT ops l A = true → wpList P ops Q (l.map (·.2)) a w → wpAny P .any ops Q l.length A a w
  | [], A, a, w, _, hB, h => ⟨by simpa [seqT] using hB, h⟩
  | p :: l, A, a, w, ho, hB, h => by
    unfold seqT at hB
    split at hB
    · rename_i hr
      have h0 := ho p (by simp)
      rw [Bool.or_eq_true] at hr
      rcases hr with hr | hr
      · have hr := of_decide_eq_true hr
        refine ⟨fun h1 => (by rw [hr] at h1; cases h1), fun i hi => ?_⟩
        rw [hr] at hi
        obtain rfl : i = p.1 := by simpa using hi
        have hw : wpOp P ops Q p.1 (wpList P ops Q (l.map (·.2))) a w := by
          unfold wpOp
          simp only [h0]
          exact h
        exact wpOp_mono (fun a' w' h' => wpAny_of_seqT hns hQp hQo l _ a' w' (fun q hq => ho q (by simp [hq])) hB h') hw
      · simp only [Bool.and_eq_true] at hr
        obtain ⟨⟨hk, hin⟩, hfr⟩ := hr
        have hin : p.1 ∈ Region.ready .any ops A := by simpa using hin
        obtain ⟨u, hy, hK⟩ := tmp_yields (ops := ops) hk hQo h
        refine wpAny_first h0 (Region.noSelect_spec hns) (fun c a w h => (hQp c _ w h).elim) l.length A a w (fun j oj hoj hne hun hno => ?_) hin hy (wpAny_of_seqT hns hQp hQo l _ _ w (fun q hq => ho q (by simp [hq])) hB hK)
        have h2 := List.all_eq_true.1 hfr j (List.mem_range.2 (Array.getElem?_eq_some_iff.1 hoj).1)
        simp only [hoj, Bool.or_eq_true, beq_iff_eq, hne, false_or, hun, Bool.false_eq_true] at h2
        rcases h2 with h2 | h2
        · obtain ⟨e, he, hb, hon⟩ := waits_spec h2
          exact absurd hon (hno e he hb)
        · exact h2
    · cases hB

theorem draw_any {T : List (Nat × Oper)} (hok : drawOk ops L T = true) (hT : ∀ p ∈ T, ops[p.1]? = some p.2) (r : HR P G n call ops L F Hh V) (hc : CallOk P G call) {φ0 : Phi} {a0 : Act} {w0 : World} (hg : GR φ0 G) (hw0 : WR φ0 (Hh 0) w0) (hf0 : FR φ0 G (F 0) n a0)
    {Q : Exit → Act → World → Prop} (hQp : ∀ c a w, ¬ Q (.panic c) a w)
    (hQ : ∀ φ a w, Inv L n Hh V φ0 a0 w0 (fun k => (listedH ops L).getD k false) φ a w → (∀ p ∈ L, (listedH ops L).getD p.1 false = true) → wpAny P .any ops Q T.length (listedH ops L) a w) :
    ∀ (d : Nat) (listed : Array Bool) (φ : Phi) (a : Act) (w : World), Inv L n Hh V φ0 a0 w0 (fun k => listed.getD k false) φ a w → HInv ops T listed → cntL listed L = d → wpAny P .any ops Q (d + T.length) listed a w := by
  have hok' := hok
  simp only [drawOk, Bool.and_eq_true, decide_eq_true_eq] at hok'
  obtain ⟨⟨⟨⟨⟨⟨⟨⟨hhead, hlen⟩, hns⟩, hcov⟩, hdis⟩, hneed⟩, hpure⟩, hchain⟩, hseq⟩ := hok'
  have hnd := headOk_nodup hhead
  have hinL : ∀ i, i < ops.size → (∃ p ∈ L, p.1 = i) ∨ ∃ p ∈ T, p.1 = i := fun i hi => by
    have := List.all_eq_true.1 hcov i (List.mem_range.2 hi)
    rw [Bool.or_eq_true] at this
    rcases this with h | h
    · obtain ⟨p, hp, he⟩ := List.any_eq_true.1 h
      exact .inl ⟨p, hp, by simpa using he⟩
    · obtain ⟨p, hp, he⟩ := List.any_eq_true.1 h
      exact .inr ⟨p, hp, by simpa using he⟩
  have hnotT : ∀ p ∈ T, ∀ q ∈ L, q.1 ≠ p.1 := fun p hp q hq e => by
    have := List.all_eq_true.1 hdis p hp
    simp only [Bool.not_eq_true'] at this
    rw [List.any_eq_false] at this
    exact this q hq (by simpa using e)
  have hopL : ∀ p ∈ L, ops[p.1]? = some p.2 := fun p hp => by
    obtain ⟨k, hk⟩ := List.mem_iff_getElem?.1 hp
    exact r.opr k p.1 p.2 hk
  intro d
  induction d with
  | zero =>
    intro listed φ a w inv hi hd
    have hall := cntL_zero hd
    have e : listed = listedH ops L := by
      have hs := hi.size
      obtain ⟨f1, f2⟩ := fold_listed L (Array.replicate ops.size false)
      have hz : (listedH ops L).size = ops.size := by unfold listedH; rw [f1]; simp
      apply Array.ext_getElem?
      intro i
      by_cases hil : i < ops.size
      · have h2 : (listedH ops L).getD i false = (L.any fun p => p.1 == i) := by
          unfold listedH
          rw [f2 i (by simpa using hil), getD_replicate_false, Bool.false_or]
        have h1 : listed.getD i false = (L.any fun p => p.1 == i) := by
          rcases hinL i hil with ⟨p, hp, rfl⟩ | ⟨p, hp, rfl⟩
          · rw [hall p hp]
            exact (List.any_eq_true.2 ⟨p, hp, by simp⟩).symm
          · rw [hi.tail p hp]
            exact (List.any_eq_false.2 fun q hq h => hnotT p hp q hq (by simpa using h)).symm
        rw [← h2] at h1
        simp only [Array.getD, show i < listed.size by omega, show i < (listedH ops L).size by omega, dif_pos] at h1
        rw [Array.getElem?_eq_getElem (by omega), Array.getElem?_eq_getElem (by omega)]
        exact congrArg some h1
      · rw [Array.getElem?_eq_none (by omega), Array.getElem?_eq_none (by omega)]
    rw [Nat.zero_add, e]
    exact hQ φ a w (e ▸ inv) (e ▸ hall)
  | succ d ih =>
    intro listed φ a w inv hi hd
    obtain ⟨k0, i0, o0, hk0, hu0, hall0⟩ := least_un (A := listed) (l := L) (by omega)
    have ho0 := r.opr k0 i0 o0 hk0
    have hsz0 : i0 < ops.size := (Array.getElem?_eq_some_iff.1 ho0).1
    have hafter0 : ∀ e ∈ o0.after, Region.binds .any e = true → listed.getD e.on false = true := fun e he hb => by
      obtain ⟨j, o', h1, h2⟩ := (r.self k0 i0 o0 hk0).2 e he hb
      exact hall0 j e.on o' h1 h2
    have hr0 : i0 ∈ Region.ready .any ops listed := mem_ready.2 ⟨getD_in (by rw [hi.size]; exact hsz0) hu0, o0, ho0, hafter0⟩
    have step : ∀ (i : Nat) (o : Oper), (∃ k : Nat, L[k]? = some (i, o)) → listed.getD i false = false → (∀ e ∈ o.after, Region.binds .any e = true → listed.getD e.on false = true) → ∀ (K : Act → World → Prop),
        (∀ φ' u w', Inv L n Hh V φ0 a0 w0 (fun k => (listed.setIfInBounds i true).getD k false) φ' (a.put o.dst u) w' → K (a.put o.dst u) w') → if Region.wanted o (yielded ops a.tmps) then o.wp P a w K Q else K (a.put o.dst undef) w := by
      intro i o ⟨k, hk⟩ hu haf K hK
      have hisz : i < ops.size := (Array.getElem?_eq_some_iff.1 (r.opr k i o hk)).1
      refine Inv.step (S' := fun k => (listed.setIfInBounds i true).getD k false) (K := K) (Q := Q) r hc hg hw0 hf0 inv hk hu haf (fun j ij oj hoj hSj e he hb => hi.closed ij oj (r.opr j ij oj hoj) hSj e he hb) (fun j => ?_) hK
      by_cases hj : i = j
      · subst hj
        have : i < listed.size := by rw [hi.size]; exact hisz
        simp [this]
      · have hj' : (j == i) = false := by simpa using fun h => hj h.symm
        show (listed.setIfInBounds i true).getD j false = _
        rw [getD_set_ne false hj, hj']
        simp
    have next : ∀ (i : Nat) (o : Oper), (∃ k : Nat, L[k]? = some (i, o)) → listed.getD i false = false → (∀ e ∈ o.after, Region.binds .any e = true → listed.getD e.on false = true) →
        HInv ops T (listed.setIfInBounds i true) ∧ cntL (listed.setIfInBounds i true) L = d := by
      intro i o ⟨k, hk⟩ hu haf
      have ho := r.opr k i o hk
      have hisz : i < ops.size := (Array.getElem?_eq_some_iff.1 ho).1
      have hmem : (i, o) ∈ L := List.mem_of_getElem? hk
      refine ⟨⟨by simp [hi.size], fun j oj hoj hl e he hb => ?_, fun p hp => ?_⟩, ?_⟩
      · by_cases hij : i = j
        · subst hij
          rw [ho] at hoj
          cases hoj
          exact getD_set_true (haf e he hb)
        · rw [getD_set_ne false hij] at hl
          exact getD_set_true (hi.closed j oj hoj hl e he hb)
      · rw [getD_set_ne false (hnotT p hp (i, o) hmem)]
        exact hi.tail p hp
      · have := cntL_in (A := listed) (i := i) (by rw [hi.size]; exact hisz) hu hnd ⟨(i, o), hmem, rfl⟩
        omega
    rw [show d + 1 + T.length = (d + T.length) + 1 by omega]
    by_cases hpk : pureKind o0.op = true
    · -- it is taken first
      have hK := step i0 o0 ⟨k0, hk0⟩ hu0 hafter0 (fun a' w' => ∃ φ', Inv L n Hh V φ0 a0 w0 (fun k => (listed.setIfInBounds i0 true).getD k false) φ' a' w') (fun φ' u w' h => ⟨φ', h⟩)
      obtain ⟨hn1, hn2⟩ := next i0 o0 ⟨k0, hk0⟩ hu0 hafter0
      have hfree : ∀ j oj, ops[j]? = some oj → j ≠ i0 → listed.getD j true = false → (∀ e ∈ oj.after, Region.binds .any e = true → e.on ≠ i0) → o0.apart ops oj = true := fun j oj hoj hne hun hno => by
        have h1 := List.all_eq_true.1 hpure (i0, o0) (List.mem_of_getElem? hk0)
        simp only [hpk, Bool.not_true, Bool.false_or] at h1
        have h2 := List.all_eq_true.1 h1 j (List.mem_range.2 (Array.getElem?_eq_some_iff.1 hoj).1)
        simp only [hoj, Bool.or_eq_true, beq_iff_eq, hne, false_or] at h2
        rcases h2 with (h2 | h2) | h2
        · obtain ⟨e, he, hb, hon⟩ := waits_spec h2
          exact absurd hon (hno e he hb)
        · obtain ⟨e, he, hb, hon⟩ := waits_spec h2
          have := hafter0 e he hb
          rw [hon, getD_both hun] at this
          cases this
        · exact h2
      have hyield : ∃ u, Yields P ops o0 u a ∧ ∃ φ', Inv L n Hh V φ0 a0 w0 (fun k => (listed.setIfInBounds i0 true).getD k false) φ' (a.put o0.dst u) w := by
        cases hwt : Region.wanted o0 (yielded ops a.tmps) with
        | false =>
          rw [hwt, if_neg (by decide)] at hK
          exact ⟨undef, .inr ⟨hwt, rfl⟩, hK⟩
        | true =>
          rw [hwt, if_pos rfl] at hK
          have hpure2 := Inv.pure r hc hg hw0 hf0 inv hk0 hu0 hafter0 (fun j ij oj hoj hSj e he hb => hi.closed ij oj (r.opr j ij oj hoj) hSj e he hb) hpk hwt
          obtain ⟨u, hu⟩ := hpure2
          refine ⟨u, .inl ⟨hwt, hu⟩, ?_⟩
          unfold Oper.wp at hK
          rw [hu w] at hK
          exact hK
      obtain ⟨u, hy, φ', inv'⟩ := hyield
      exact wpAny_first ho0 (Region.noSelect_spec hns) (fun c a w h => (hQp c _ w h).elim) (d + T.length) listed a w hfree hr0 hy (ih _ φ' _ w inv' hn1 hn2)
    · refine ⟨fun h => (by rw [h] at hr0; cases hr0), fun i hir => ?_⟩
      obtain ⟨hui, o, ho, hafter⟩ := mem_ready.1 hir
      have hisz : i < ops.size := (Array.getElem?_eq_some_iff.1 ho).1
      have hiL : ∃ p ∈ L, p.1 = i := by
        rcases hinL i hisz with h | ⟨p, hp, rfl⟩
        · exact h
        · exfalso
          have hop := hT p hp
          rw [ho] at hop
          cases hop
          obtain ⟨k, hk⟩ := List.mem_iff_getElem?.1 hp
          cases k with
          | zero =>
            cases T with
            | nil => cases hp
            | cons t T' =>
              simp only [List.getElem?_cons_zero, Option.some.injEq] at hk
              subst hk
              have h1 := List.all_eq_true.1 hneed (i0, o0) (List.mem_of_getElem? hk0)
              simp only [hpk, Bool.false_or] at h1
              obtain ⟨q, hq, hqe⟩ := List.any_eq_true.1 h1
              have h2 := (needs_spec (A := listed) (fun e he hb => hafter e he hb) hi.closed hopL q hq).2
              have hqe' : q.1 = i0 := by simpa using hqe
              rw [hqe', hu0] at h2
              cases h2
          | succ k =>
            obtain ⟨p', hp', hw⟩ := chainT_spec hchain hk
            obtain ⟨e, he, hb, hon⟩ := waits_spec hw
            have h1 := hafter e he hb
            rw [hon, hi.tail _ hp'] at h1
            cases h1
      obtain ⟨⟨i', o'⟩, hp, rfl⟩ := hiL
      have ho' := hopL _ hp
      rw [ho] at ho'
      cases ho'
      have hk := List.mem_iff_getElem?.1 hp
      obtain ⟨hn1, hn2⟩ := next i' o' hk (getD_both hui) hafter
      have hS := step i' o' hk (getD_both hui) hafter (wpAny P .any ops Q (d + T.length) (listed.setIfInBounds i' true)) (fun φ' u w' inv' => ih _ φ' _ w' inv' hn1 hn2)
      unfold wpOp
      simp only [ho]
      split
      · rename_i hw
        rw [if_pos hw] at hS
        exact .inl hS
      · rename_i hw
        rw [if_neg hw] at hS
        exact hS
end
end Go.Proofs.YtjcmbnpabkhcfaaGreatDoor.Eng
