import Derived.Test.YtjcmbnpabkhcfaaGreatDoorEngJ
namespace Go.Proofs.YtjcmbnpabkhcfaaGreatDoor.Eng
open Go.RowKit
open Go Go.Proofs
set_option linter.unusedVariables false
set_option linter.unusedSimpArgs false

/-! ### A region that draws its order -/

def dstIs (o : Oper) (t : Tmp) : Bool := match o.dst with
  | some d => d == t
  | none => false
def waits (o : Oper) (i : Nat) : Bool := o.after.any fun e => Region.binds .any e && e.on == i
/-- What the order may not turn: each operation of the head is apart from the others, or one waits for the other. -/
def pairOk (ops : Array Oper) (i : Nat) (oi oj : Oper) : Bool :=
  (match oi.dst with
   | some d => !(dstIs oj d) && (!(oj.looksAt ops).contains d || waits oj i)
   | none => true) &&
  (match oj.dst with
   | some d => !(oi.looksAt ops).contains d || waits oj i
   | none => true)
def selfOk (ops : Array Oper) (o : Oper) : Bool := match o.dst with
  | some d => !(o.looksAt ops).contains d
  | none => true
def pairsOk (ops : Array Oper) (i : Nat) (oi : Oper) : List (Nat × Oper) → Bool
  | [] => true
  | (j, oj) :: l => match decide (i ≠ j) && pairOk ops i oi oj with
    | true => pairsOk ops i oi l
    | false => false
def headOk (ops : Array Oper) : List Nat → List (Nat × Oper) → Bool
  | _, [] => true
  | pre, (i, o) :: l => match selfOk ops o && o.after.all (fun e => !Region.binds .any e || pre.contains e.on) with
    | true => match pairsOk ops i o l with
      | true => headOk ops (i :: pre) l
      | false => false
    | false => false
theorem pairsOk_spec {ops : Array Oper} {i : Nat} {oi : Oper} : ∀ {l : List (Nat × Oper)}, pairsOk ops i oi l = true → ∀ p ∈ l, i ≠ p.1 ∧ pairOk ops i oi p.2 = true
  | [], _, p, hp => by cases hp
  | (j, o) :: l, h, p, hp => by
    unfold pairsOk at h
    split at h
    · rename_i h1
      simp only [Bool.and_eq_true, decide_eq_true_eq] at h1
      rcases List.mem_cons.1 hp with rfl | hp
      · exact h1
      · exact pairsOk_spec h p hp
    · cases h
theorem headOk_spec {ops : Array Oper} : ∀ {l : List (Nat × Oper)} {pre : List Nat}, headOk ops pre l = true →
    (∀ (k i : Nat) (o : Oper), l[k]? = some (i, o) → selfOk ops o = true ∧ ∀ e ∈ o.after, Region.binds .any e = true → e.on ∈ pre ∨ ∃ (j : Nat) (o' : Oper), j < k ∧ l[j]? = some (e.on, o')) ∧
    ∀ (k j i i' : Nat) (o o' : Oper), k < j → l[k]? = some (i, o) → l[j]? = some (i', o') → i ≠ i' ∧ pairOk ops i o o' = true
  | [], _, _ => ⟨fun k _ _ hk => (by cases hk), fun _ _ _ _ _ _ _ hk _ => (by cases hk)⟩
  | (i0, o0) :: l, pre, h => by
    unfold headOk at h
    split at h
    · rename_i h1
      split at h
      · rename_i h2
        obtain ⟨h3, h4⟩ := headOk_spec h
        simp only [Bool.and_eq_true] at h1
        refine ⟨fun k i o hk => ?_, fun k j i i' o o' hkj hk hj => ?_⟩
        · cases k with
          | zero =>
            simp only [List.getElem?_cons_zero, Option.some.injEq, Prod.mk.injEq] at hk
            obtain ⟨rfl, rfl⟩ := hk
            refine ⟨h1.1, fun e he hb => .inl ?_⟩
            have := Array.all_eq_true_iff_forall_mem.1 h1.2 e he
            simp only [hb, Bool.not_true, Bool.false_or] at this
            simpa using this
          | succ k =>
            obtain ⟨a, b⟩ := h3 k i o (by simpa using hk)
            refine ⟨a, fun e he hb => ?_⟩
            rcases b e he hb with h5 | ⟨j, o', h5, h6⟩
            · rcases List.mem_cons.1 h5 with h7 | h7
              · exact .inr ⟨0, o0, by omega, by simp [h7]⟩
              · exact .inl h7
            · exact .inr ⟨j + 1, o', by omega, by simpa using h6⟩
        · cases j with
          | zero => omega
          | succ j =>
            have hj' : l[j]? = some (i', o') := by simpa using hj
            cases k with
            | zero =>
              simp only [List.getElem?_cons_zero, Option.some.injEq, Prod.mk.injEq] at hk
              obtain ⟨rfl, rfl⟩ := hk
              exact pairsOk_spec h2 (i', o') (List.mem_of_getElem? hj')
            | succ k => exact h4 k j i i' o o' (by omega) (by simpa using hk) hj'
      · cases h
    · cases h

def headE (P : Program) (G n : Nat) (call : CallE) (ops : Array Oper) : List (Nat × Oper) → Fr → H → Option (Fr × H)
  | [], fr, h => some (fr, h)
  | (_, o) :: l, fr, h => match valE P G n call ops o fr ⟨h.mem, h.next, h.next⟩ with
    | some (v, h') => match decide (h'.low = h.next), putE n fr o.dst v with
      | true, some fr' => headE P G n call ops l fr' h'
      | _, _ => none
    | none => none
theorem headE_tr {P : Program} {G n : Nat} {call : CallE} {ops : Array Oper} : ∀ {l : List (Nat × Oper)} {fr fr' : Fr} {h h' : H}, headE P G n call ops l fr h = some (fr', h') →
    ∃ (F : Nat → Fr) (Hh : Nat → H) (V : Nat → EV), F 0 = fr ∧ Hh 0 = h ∧ F l.length = fr' ∧ Hh l.length = h' ∧
      ∀ (k i : Nat) (o : Oper), l[k]? = some (i, o) → valE P G n call ops o (F k) ⟨(Hh k).mem, (Hh k).next, (Hh k).next⟩ = some (V k, Hh (k + 1)) ∧ (Hh (k + 1)).low = (Hh k).next ∧ putE n (F k) o.dst (V k) = some (F (k + 1))
  | [], fr, fr', h, h', he => by
    simp only [headE, Option.some.injEq, Prod.mk.injEq] at he
    obtain ⟨rfl, rfl⟩ := he
    exact ⟨fun _ => fr, fun _ => h, fun _ => default, rfl, rfl, rfl, rfl, fun k _ _ hk => (by cases hk)⟩
  | (i0, o) :: l, fr, fr', h, h', he => by
    unfold headE at he
    split at he
    · rename_i v h1 hv
      split at he
      · rename_i fr1 hl hp
        obtain ⟨F, Hh, V, f0, H0, f1, H1, hk⟩ := headE_tr he
        refine ⟨fun k => match k with | 0 => fr | k + 1 => F k, fun k => match k with | 0 => h | k + 1 => Hh k, fun k => match k with | 0 => v | k + 1 => V k, rfl, rfl, f1, H1, fun k i o' hko => ?_⟩
        cases k with
        | zero =>
          simp only [List.getElem?_cons_zero, Option.some.injEq, Prod.mk.injEq] at hko
          obtain ⟨rfl, rfl⟩ := hko
          simp only
          rw [f0, H0]
          exact ⟨hv, of_decide_eq_true hl, hp⟩
        | succ k => exact hk k i o' (by simpa using hko)
      · cases he
    · cases he

def cutφ (φ : Phi) (b : Nat) : Phi := fun i => if i < b then φ i else none
theorem cutφ_le (φ : Phi) (b : Nat) : (cutφ φ b).le φ := fun i p h => by
  unfold cutφ at h
  split at h
  · exact h
  · cases h
theorem cutφ_mono {φ φ' : Phi} {b b' : Nat} (hb : b ≤ b') (h : ∀ i p, i < b → φ i = some p → φ' i = some p) : (cutφ φ b).le (cutφ φ' b') := fun i p hi => by
  unfold cutφ at hi ⊢
  split at hi
  · rename_i hlt
    rw [if_pos (by omega)]
    exact h i p hlt hi
  · cases hi

/-- The head's run in its own order. -/
structure HR (P : Program) (G n : Nat) (call : CallE) (ops : Array Oper) (L : List (Nat × Oper)) (F : Nat → Fr) (Hh : Nat → H) (V : Nat → EV) : Prop where
  opr : ∀ (k i : Nat) (o : Oper), L[k]? = some (i, o) → ops[i]? = some o
  val : ∀ (k i : Nat) (o : Oper), L[k]? = some (i, o) → valE P G n call ops o (F k) ⟨(Hh k).mem, (Hh k).next, (Hh k).next⟩ = some (V k, Hh (k + 1))
  low : ∀ (k i : Nat) (o : Oper), L[k]? = some (i, o) → (Hh (k + 1)).low = (Hh k).next
  put : ∀ (k i : Nat) (o : Oper), L[k]? = some (i, o) → putE n (F k) o.dst (V k) = some (F (k + 1))
  self : ∀ (k i : Nat) (o : Oper), L[k]? = some (i, o) → selfOk ops o = true ∧ ∀ e ∈ o.after, Region.binds .any e = true → ∃ (j : Nat) (o' : Oper), j < k ∧ L[j]? = some (e.on, o')
  pair : ∀ (k j i i' : Nat) (o o' : Oper), k < j → L[k]? = some (i, o) → L[j]? = some (i', o') → i ≠ i' ∧ pairOk ops i o o' = true

section
variable {P : Program} {G n : Nat} {call : CallE} {ops : Array Oper} {L : List (Nat × Oper)} {F : Nat → Fr} {Hh : Nat → H} {V : Nat → EV}

theorem getL {L : List (Nat × Oper)} {k : Nat} (hk : k < L.length) : ∃ i o, L[k]? = some (i, o) := ⟨(L[k]'hk).1, (L[k]'hk).2, List.getElem?_eq_getElem hk⟩
theorem ltL {L : List (Nat × Oper)} {k : Nat} {x : Nat × Oper} (h : L[k]? = some x) : k < L.length := (List.getElem?_eq_some_iff.1 h).1

theorem HR.hs (r : HR P G n call ops L F Hh V) (hc : CallOk P G call) {k : Nat} (hk : k < L.length) : (Hh k).next ≤ (Hh (k + 1)).next ∧ ∀ i, i < (Hh k).next → (Hh (k + 1)).mem.get i = (Hh k).mem.get i := by
  obtain ⟨i, o, ho⟩ := getL hk
  have h1 := valE_hs hc (r.val k i o ho)
  exact ⟨h1.next, fun j hj => h1.keep j hj (by rw [r.low k i o ho]; exact hj)⟩
theorem HR.mono (r : HR P G n call ops L F Hh V) (hc : CallOk P G call) : ∀ {k : Nat} (d : Nat), k + d ≤ L.length → (Hh k).next ≤ (Hh (k + d)).next ∧ ∀ i, i < (Hh k).next → (Hh (k + d)).mem.get i = (Hh k).mem.get i
  | k, 0, _ => ⟨Nat.le_refl _, fun _ _ => rfl⟩
  | k, d + 1, h => by
    obtain ⟨h1, h2⟩ := r.mono hc (k := k) d (by omega)
    obtain ⟨h3, h4⟩ := r.hs hc (k := k + d) (by omega)
    exact ⟨Nat.le_trans h1 h3, fun i hi => (h4 i (by omega)).trans (h2 i hi)⟩
theorem HR.mono' (r : HR P G n call ops L F Hh V) (hc : CallOk P G call) {k j : Nat} (hkj : k ≤ j) (hj : j ≤ L.length) : (Hh k).next ≤ (Hh j).next ∧ ∀ i, i < (Hh k).next → (Hh j).mem.get i = (Hh k).mem.get i := by
  have := r.mono hc (k := k) (j - k) (by omega)
  rwa [show k + (j - k) = j by omega] at this
theorem HR.uniq (r : HR P G n call ops L F Hh V) {j k ij ik : Nat} {oj ok : Oper} {t : Tmp} (hoj : L[j]? = some (ij, oj)) (hok : L[k]? = some (ik, ok)) (dj : oj.dst = some t) (dk : ok.dst = some t) : j = k := by
  rcases Nat.lt_trichotomy j k with h | h | h
  · have hp := (r.pair j k ij ik oj ok h hoj hok).2
    simp [pairOk, dj, dstIs, dk] at hp
  · exact h
  · have hp := (r.pair k j ik ij ok oj h hok hoj).2
    simp [pairOk, dj, dstIs, dk] at hp
theorem HR.inj (r : HR P G n call ops L F Hh V) {j k i : Nat} {oj ok : Oper} (hoj : L[j]? = some (i, oj)) (hok : L[k]? = some (i, ok)) : j = k := by
  rcases Nat.lt_trichotomy j k with h | h | h
  · exact ((r.pair j k i i oj ok h hoj hok).1 rfl).elim
  · exact h
  · exact ((r.pair k j i i ok oj h hok hoj).1 rfl).elim
theorem waits_spec {o : Oper} {i : Nat} (h : waits o i = true) : ∃ e ∈ o.after, Region.binds .any e = true ∧ e.on = i := by
  obtain ⟨e, he, hb⟩ := Array.any_eq_true'.1 h
  simp only [Bool.and_eq_true, beq_iff_eq] at hb
  exact ⟨e, he, hb.1, hb.2⟩

/-- What a slot holds ahead of operation k. -/
theorem HR.slot (r : HR P G n call ops L F Hh V) (t : Tmp) : ∀ {k : Nat}, k ≤ L.length →
    (∀ (j i : Nat) (oj : Oper), j < k → L[j]? = some (i, oj) → oj.dst = some t → ev G (F k) (.tmp t) = V j) ∧ ((∀ (j i : Nat) (oj : Oper), j < k → L[j]? = some (i, oj) → oj.dst ≠ some t) → ev G (F k) (.tmp t) = ev G (F 0) (.tmp t))
  | 0, _ => ⟨fun j _ _ hj => absurd hj (by omega), fun _ => rfl⟩
  | k + 1, hk => by
    obtain ⟨ik, o, ho⟩ := getL (L := L) (show k < L.length by omega)
    obtain ⟨i1, i2⟩ := r.slot t (k := k) (by omega)
    obtain ⟨p1, p2⟩ := putE_ev (G := G) (r.put k ik o ho) t
    refine ⟨fun j i oj hj hoj hd => ?_, fun hno => ?_⟩
    · by_cases hjk : j = k
      · subst hjk
        rw [ho] at hoj
        cases hoj
        exact (p1 hd).1
      · have hne : o.dst ≠ some t := fun e => hjk (r.uniq hoj ho hd e)
        rw [p2 hne]
        exact i1 j i oj (by omega) hoj hd
    · rw [p2 (hno k ik o (by omega) ho)]
      exact i2 fun j i oj hj => hno j i oj (by omega)

/-- What holds when so much of the head has been carried out, in whatever order. -/
structure Inv (L : List (Nat × Oper)) (n : Nat) (Hh : Nat → H) (V : Nat → EV) (φ0 : Phi) (a0 : Act) (w0 : World) (S : Nat → Bool) (φ : Phi) (a : Act) (w : World) : Prop where
  ent : ∀ i e p, (Hh L.length).mem.get i = some e → φ i = some p → ∃ b, ((i < (Hh 0).next ∧ b = (Hh 0).next) ∨ (∃ k, k < L.length ∧ (Hh k).next ≤ i ∧ i < (Hh (k + 1)).next ∧ b = (Hh (k + 1)).next)) ∧ ER (cutφ φ b) w p e
  sep : ∀ i j p q, ((Hh L.length).mem.get i).isSome = true → ((Hh L.length).mem.get j).isSome = true → φ i = some p → φ j = some q → i ≠ j → p.b ≠ q.b
  old : ∀ i, i < (Hh 0).next → φ i = φ0 i
  dom : ∀ i p, φ i = some p → p.b < w.heap.size ∧ (i < (Hh 0).next ∨ ∃ (k ik : Nat) (o : Oper), L[k]? = some (ik, o) ∧ S ik = true ∧ (Hh k).next ≤ i ∧ i < (Hh (k + 1)).next)
  size : a.tmps.size = n
  defers : a.defers = a0.defers
  tmp : ∀ t, (∀ (k i : Nat) (o : Oper), L[k]? = some (i, o) → o.dst = some t → S i = false) → a.tmps.getD t undef = a0.tmps.getD t undef
  val : ∀ (k i : Nat) (o : Oper) t, L[k]? = some (i, o) → o.dst = some t → S i = true → VR (cutφ φ (Hh (k + 1)).next) (V k) (a.tmps.getD t undef)
  os : w.os = w0.os
  tape : w.tape = w0.tape
  output : w.output = w0.output
  hsize : w0.heap.size ≤ w.heap.size
  frame : ∀ b, b < w0.heap.size → w.heap[b]? = w0.heap[b]?
  fresh : ∀ i p, φ i = some p → (Hh 0).next ≤ i → w0.heap.size ≤ p.b

def mixφ (φ φ' : Phi) (N N1 : Nat) : Phi := fun i => if N ≤ i ∧ i < N1 then φ' i else φ i
theorem mix_in {φ φ' : Phi} {N N1 i : Nat} (h : N ≤ i ∧ i < N1) : mixφ φ φ' N N1 i = φ' i := if_pos h
theorem mix_out {φ φ' : Phi} {N N1 i : Nat} (h : ¬ (N ≤ i ∧ i < N1)) : mixφ φ φ' N N1 i = φ i := if_neg h

/-- What lies ahead of an operation of the head that is ready. -/
theorem Inv.ahead {φ0 φ : Phi} {a0 a : Act} {w0 w : World} {S : Nat → Bool} {k ik : Nat} {o : Oper} (r : HR P G n call ops L F Hh V) (hc : CallOk P G call) (hg : GR φ0 G) (hw0 : WR φ0 (Hh 0) w0) (hf0 : FR φ0 G (F 0) n a0)
    (inv : Inv L n Hh V φ0 a0 w0 S φ a w) (ho : L[k]? = some (ik, o)) (hS : S ik = false) (hready : ∀ e ∈ o.after, Region.binds .any e = true → S e.on = true)
    (hclosed : ∀ (j i : Nat) (oj : Oper), L[j]? = some (i, oj) → S i = true → ∀ e ∈ oj.after, Region.binds .any e = true → S e.on = true) :
    WR (cutφ φ (Hh k).next) ⟨(Hh k).mem, (Hh k).next, (Hh k).next⟩ w ∧ GR (cutφ φ (Hh k).next) G ∧ ∀ t ∈ o.looksAt ops, VR (cutφ φ (Hh k).next) (ev G (F k) (.tmp t)) (a.tmps.getD t undef) := by
  have hk : k < L.length := ltL ho
  have hmono := fun {i j : Nat} (h1 : i ≤ j) (h2 : j ≤ L.length) => r.mono' hc h1 h2
  have h0k := (hmono (Nat.zero_le k) (by omega)).1
  have hkk := (hmono (Nat.le_succ k) (by omega)).1
  -- the heap ahead of the operation
  have hwk : WR (cutφ φ (Hh k).next) ⟨(Hh k).mem, (Hh k).next, (Hh k).next⟩ w := by
    refine ⟨fun i e p hi hp => ?_, fun i j p q hi hj hp hq hij => ?_, fun i p hp => ?_⟩
    · have hlt : i < (Hh k).next := by
        unfold cutφ at hp
        split at hp
        · assumption
        · cases hp
      have hp' := cutφ_le _ _ _ _ hp
      have hi' : (Hh L.length).mem.get i = some e := ((hmono (show k ≤ L.length by omega) (Nat.le_refl _)).2 i hlt).trans hi
      obtain ⟨b, hb, her⟩ := inv.ent i e p hi' hp'
      refine her.mono (cutφ_mono ?_ fun _ _ _ h => h) rfl
      rcases hb with ⟨_, rfl⟩ | ⟨j, hj, h1, h2, rfl⟩
      · exact h0k
      · by_cases hjk : j < k
        · exact (hmono (show j + 1 ≤ k by omega) (by omega)).1
        · have := (hmono (show k ≤ j by omega) (by omega)).1
          omega
    · have hlt : ∀ {x y}, cutφ φ (Hh k).next x = some y → x < (Hh k).next := fun {x y} h => by
        unfold cutφ at h
        split at h
        · assumption
        · cases h
      refine inv.sep i j p q ?_ ?_ (cutφ_le _ _ _ _ hp) (cutφ_le _ _ _ _ hq) hij
      · rw [(hmono (show k ≤ L.length by omega) (Nat.le_refl _)).2 i (hlt hp)]; exact hi
      · rw [(hmono (show k ≤ L.length by omega) (Nat.le_refl _)).2 j (hlt hq)]; exact hj
    · refine ⟨?_, (inv.dom i p (cutφ_le _ _ _ _ hp)).1⟩
      unfold cutφ at hp
      split at hp
      · assumption
      · cases hp
  have hgk : GR (cutφ φ (Hh k).next) G := fun g hgl => by
    obtain ⟨q, hq⟩ := hg g hgl
    have hlt := (hw0.dom g _ hq).1
    refine ⟨q, ?_⟩
    unfold cutφ
    rw [if_pos (by omega), inv.old g hlt]
    exact hq
  have hle0 : φ0.le (cutφ φ (Hh k).next) := fun i p hi => by
    have hlt := (hw0.dom i _ hi).1
    unfold cutφ
    rw [if_pos (by omega), inv.old i hlt]
    exact hi
  have hl : ∀ t ∈ o.looksAt ops, VR (cutφ φ (Hh k).next) (ev G (F k) (.tmp t)) (a.tmps.getD t undef) := fun t ht => by
    have htc : (o.looksAt ops).contains t = true := by simpa using ht
    have hno : (∀ (j i : Nat) (oj : Oper), L[j]? = some (i, oj) → oj.dst = some t → S i = false ∧ k < j) → VR (cutφ φ (Hh k).next) (ev G (F k) (.tmp t)) (a.tmps.getD t undef) := fun hall => by
      rw [inv.tmp t fun j i oj hoj hd => (hall j i oj hoj hd).1, (r.slot t (k := k) (by omega)).2 fun j i oj hj hoj hd => by have := (hall j i oj hoj hd).2; omega]
      exact (hf0.val t).mono hle0
    by_cases hex : ∃ (j i : Nat) (oj : Oper), L[j]? = some (i, oj) ∧ oj.dst = some t
    · obtain ⟨j, ij, oj, hoj, hd⟩ := hex
      rcases Nat.lt_trichotomy j k with h | h | h
      · have hp := (r.pair j k ij ik oj o h hoj ho).2
        simp only [pairOk, hd, Bool.and_eq_true] at hp
        have hp2 := hp.1.2
        rw [htc] at hp2
        simp only [Bool.not_true, Bool.false_or] at hp2
        obtain ⟨e, he, hb, hon⟩ := waits_spec hp2
        have hSj := hready e he hb
        rw [hon] at hSj
        rw [(r.slot t (k := k) (by omega)).1 j ij oj h hoj hd]
        exact (inv.val j ij oj t hoj hd hSj).mono (cutφ_mono (hmono (show j + 1 ≤ k by omega) (by omega)).1 fun _ _ _ h => h)
      · subst h
        rw [ho] at hoj
        cases hoj
        have := (r.self j ik o ho).1
        simp only [selfOk, hd, htc, Bool.not_true] at this
        cases this
      · have hp := (r.pair k j ik ij o oj h ho hoj).2
        simp only [pairOk, hd, Bool.and_eq_true] at hp
        have hp2 := hp.2
        rw [htc] at hp2
        simp only [Bool.not_true, Bool.false_or] at hp2
        obtain ⟨e, he, hb, hon⟩ := waits_spec hp2
        refine hno fun j' ij' oj' hoj' hd' => ?_
        obtain rfl := r.uniq hoj hoj' hd hd'
        rw [hoj] at hoj'
        cases hoj'
        refine ⟨?_, h⟩
        cases hSj : S ij with
        | false => rfl
        | true =>
          have := hclosed j ij oj hoj hSj e he hb
          rw [hon, hS] at this
          cases this
    · exact hno fun j i oj hoj hd => (hex ⟨j, i, oj, hoj, hd⟩).elim
  exact ⟨hwk, hgk, hl⟩
theorem Inv.pure {φ0 φ : Phi} {a0 a : Act} {w0 w : World} {S : Nat → Bool} {k ik : Nat} {o : Oper} (r : HR P G n call ops L F Hh V) (hc : CallOk P G call) (hg : GR φ0 G) (hw0 : WR φ0 (Hh 0) w0) (hf0 : FR φ0 G (F 0) n a0)
    (inv : Inv L n Hh V φ0 a0 w0 S φ a w) (ho : L[k]? = some (ik, o)) (hS : S ik = false) (hready : ∀ e ∈ o.after, Region.binds .any e = true → S e.on = true)
    (hclosed : ∀ (j i : Nat) (oj : Oper), L[j]? = some (i, oj) → S i = true → ∀ e ∈ oj.after, Region.binds .any e = true → S e.on = true) (hpk : pureKind o.op = true) (hwt : Region.wanted o (yielded ops a.tmps) = true) :
    ∃ u, ∀ w, (execOp a.eval o).run P w = .ok (.value u) w := by
  obtain ⟨hwk, hgk, hl⟩ := Inv.ahead r hc hg hw0 hf0 inv ho hS hready hclosed
  have hv := r.val k ik o ho
  unfold valE at hv
  have hρ : ∀ x ∈ o.op.operands.toList, VR (cutφ φ (Hh k).next) (ev G (F k) x) (a.eval x) := fun x hx => by
    cases x with
    | tmp t =>
      refine hl t ?_
      simp only [Oper.looksAt, List.mem_append, List.mem_filterMap]
      exact .inl ⟨.tmp t, hx, rfl⟩
    | const v => exact .sc
    | global g =>
      simp only [ev]
      split
      · rename_i hd
        obtain ⟨m, hm⟩ := hgk g (of_decide_eq_true hd)
        exact .ptr (o := 0) hm
      · exact .sc
    | func f => exact .sc
  split at hv
  · split at hv
    · rename_i hx
      exact exec_pure hρ hpk hx
    · rename_i hx
      exact exec_pure hρ hpk hx
    · rename_i hx
      exact exec_pure hρ hpk hx
    · cases hv
  · rename_i hw2
    rw [wantE_ok inv.size hl hw2] at hwt
    cases hwt
  · cases hv

/-- One operation of the head that is ready. -/
theorem Inv.step {φ0 φ : Phi} {a0 a : Act} {w0 w : World} {S S' : Nat → Bool} {k ik : Nat} {o : Oper} (r : HR P G n call ops L F Hh V) (hc : CallOk P G call) (hg : GR φ0 G) (hw0 : WR φ0 (Hh 0) w0) (hf0 : FR φ0 G (F 0) n a0)
    (inv : Inv L n Hh V φ0 a0 w0 S φ a w) (ho : L[k]? = some (ik, o)) (hS : S ik = false) (hready : ∀ e ∈ o.after, Region.binds .any e = true → S e.on = true)
    (hclosed : ∀ (j i : Nat) (oj : Oper), L[j]? = some (i, oj) → S i = true → ∀ e ∈ oj.after, Region.binds .any e = true → S e.on = true) (hS' : ∀ j, S' j = (S j || j == ik))
    (K : Act → World → Prop) (Q : Exit → Act → World → Prop) (hK : ∀ φ' u w', Inv L n Hh V φ0 a0 w0 S' φ' (a.put o.dst u) w' → K (a.put o.dst u) w') :
    if Region.wanted o (yielded ops a.tmps) then o.wp P a w K Q else K (a.put o.dst undef) w := by
  have hk : k < L.length := ltL ho
  have hmono := fun {i j : Nat} (h1 : i ≤ j) (h2 : j ≤ L.length) => r.mono' hc h1 h2
  have h0k := (hmono (Nat.zero_le k) (by omega)).1
  have hkk := (hmono (Nat.le_succ k) (by omega)).1
  obtain ⟨hwk, hgk, hl⟩ := Inv.ahead r hc hg hw0 hf0 inv ho hS hready hclosed
  refine valE_ok hc hwk hgk inv.size hl (r.val k ik o ho) K Q fun φ' u w' hu hs => hK (mixφ φ φ' (Hh k).next (Hh (k + 1)).next) u w' ?_
  have hlow := r.low k ik o ho
  have hnone : ∀ i p, (Hh k).next ≤ i → i < (Hh (k + 1)).next → φ i = some p → False := fun i p h1 h2 hp => by
    rcases (inv.dom i p hp).2 with h | ⟨k', ik', o', hk', hS1, h3, h4⟩
    · omega
    · have hk'' := ltL hk'
      rcases Nat.lt_trichotomy k' k with h | h | h
      · have := (hmono (show k' + 1 ≤ k by omega) (by omega)).1
        omega
      · subst h
        rw [ho] at hk'
        cases hk'
        rw [hS] at hS1
        cases hS1
      · have := (hmono (show k + 1 ≤ k' by omega) (by omega)).1
        omega
  have hframe : ∀ b, b < w.heap.size → w'.heap[b]? = w.heap[b]? := fun b hb => hs.ps.frame b hb fun i p hi _ => by
    rw [hlow]
    unfold cutφ at hi
    split at hi
    · assumption
    · cases hi
  have hfresh : ∀ i p, φ' i = some p → (Hh k).next ≤ i → w.heap.size ≤ p.b := fun i p hi hN => by
    rcases Nat.lt_or_ge p.b w.heap.size with h | h
    · rcases hs.ps.fresh i p hi h with h1 | ⟨j, q, h1, _, h2⟩
      · unfold cutφ at h1
        rw [if_neg (by omega)] at h1
        cases h1
      · rw [hlow] at h2
        unfold cutφ at h1
        rw [if_neg (by omega)] at h1
        cases h1
    · exact h
  have hleφ : ∀ i p, φ i = some p → mixφ φ φ' (Hh k).next (Hh (k + 1)).next i = some p := fun i p hi => by
    rw [mix_out (fun h => hnone i p h.1 h.2 hi)]
    exact hi
  have hle' : φ'.le (cutφ (mixφ φ φ' (Hh k).next (Hh (k + 1)).next) (Hh (k + 1)).next) := fun i p hi => by
    have h1 := (hs.wr.dom i p hi).1
    unfold cutφ
    rw [if_pos h1]
    by_cases h2 : (Hh k).next ≤ i
    · rw [mix_in ⟨h2, h1⟩]
      exact hi
    · rw [mix_out (fun h => h2 h.1)]
      have h3 := hs.ps.old i (by simp only; omega)
      rw [h3] at hi
      exact cutφ_le _ _ _ _ hi
  have hm1 := hmono (show k + 1 ≤ L.length by omega) (Nat.le_refl _)
  have hpd := fun (t : Tmp) => put_getD (a := a) (d := o.dst) (u := u) t
  refine ⟨?_, ?_, ?_, ?_, (hpd 0).1.trans inv.size, (hpd 0).2.1.trans inv.defers, ?_, ?_, hs.ps.os.trans inv.os, hs.ps.tape.trans inv.tape, hs.ps.output.trans inv.output, Nat.le_trans inv.hsize hs.ps.size, ?_, ?_⟩
  · intro i e p hi hp
    by_cases hin : (Hh k).next ≤ i ∧ i < (Hh (k + 1)).next
    · rw [mix_in hin] at hp
      rw [hm1.2 i hin.2] at hi
      exact ⟨(Hh (k + 1)).next, .inr ⟨k, hk, hin.1, hin.2, rfl⟩, (hs.wr.ent i e p hi hp).mono hle' rfl⟩
    · rw [mix_out hin] at hp
      obtain ⟨b, hb, her⟩ := inv.ent i e p hi hp
      exact ⟨b, hb, her.mono (cutφ_mono (Nat.le_refl _) fun j q _ hj => hleφ j q hj) (hframe _ (inv.dom i p hp).1)⟩
  · intro i j p q hi hj hp hq hij
    by_cases hin : (Hh k).next ≤ i ∧ i < (Hh (k + 1)).next
    · rw [mix_in hin] at hp
      by_cases hjn : (Hh k).next ≤ j ∧ j < (Hh (k + 1)).next
      · rw [mix_in hjn] at hq
        rw [hm1.2 i hin.2] at hi
        rw [hm1.2 j hjn.2] at hj
        exact hs.wr.sep i j p q hi hj hp hq hij
      · rw [mix_out hjn] at hq
        have h1 := hfresh i p hp hin.1
        have h2 := (inv.dom j q hq).1
        omega
    · rw [mix_out hin] at hp
      by_cases hjn : (Hh k).next ≤ j ∧ j < (Hh (k + 1)).next
      · rw [mix_in hjn] at hq
        have h1 := hfresh j q hq hjn.1
        have h2 := (inv.dom i p hp).1
        omega
      · rw [mix_out hjn] at hq
        exact inv.sep i j p q hi hj hp hq hij
  · intro i hi
    rw [mix_out (by omega)]
    exact inv.old i hi
  · intro i p hp
    by_cases hin : (Hh k).next ≤ i ∧ i < (Hh (k + 1)).next
    · rw [mix_in hin] at hp
      exact ⟨(hs.wr.dom i p hp).2, .inr ⟨k, ik, o, ho, by rw [hS']; simp, hin.1, hin.2⟩⟩
    · rw [mix_out hin] at hp
      obtain ⟨h1, h2⟩ := inv.dom i p hp
      refine ⟨Nat.lt_of_lt_of_le h1 hs.ps.size, h2.imp id fun ⟨k', ik', o', a1, a2, a3, a4⟩ => ⟨k', ik', o', a1, by rw [hS', a2]; rfl, a3, a4⟩⟩
  · intro t hall
    have hd : o.dst ≠ some t := fun e => by
      have := hall k ik o ho e
      rw [hS'] at this
      simp at this
    rw [(hpd t).2.2.1 hd]
    exact inv.tmp t fun j i oj hoj hd' => by
      have := hall j i oj hoj hd'
      rw [hS'] at this
      simp only [Bool.or_eq_false_iff] at this
      exact this.1
  · intro j i oj t hoj hd hSj
    by_cases hjk : j = k
    · subst hjk
      rw [ho] at hoj
      cases hoj
      have hlt := ((putE_ev (G := G) (r.put j ik o ho) t).1 hd).2
      rw [(hpd t).2.2.2 hd (by rw [inv.size]; exact hlt)]
      exact hu.mono hle'
    · have hik : (i == ik) = false := by
        simp only [beq_eq_false_iff_ne]
        intro e
        subst e
        exact hjk (r.inj hoj ho)
      have hSj' : S i = true := by
        rw [hS', hik] at hSj
        simpa using hSj
      have hd' : o.dst ≠ some t := fun e => hjk (r.uniq hoj ho hd e)
      rw [(hpd t).2.2.1 hd']
      exact (inv.val j i oj t hoj hd hSj').mono (cutφ_mono (Nat.le_refl _) fun i q _ hi => hleφ i q hi)
  · intro b hb
    exact (hframe b (Nat.lt_of_lt_of_le hb inv.hsize)).trans (inv.frame b hb)
  · intro i p hp h0
    by_cases hin : (Hh k).next ≤ i ∧ i < (Hh (k + 1)).next
    · rw [mix_in hin] at hp
      exact Nat.le_trans inv.hsize (hfresh i p hp hin.1)
    · rw [mix_out hin] at hp
      exact inv.fresh i p hp h0
end
end Go.Proofs.YtjcmbnpabkhcfaaGreatDoor.Eng
