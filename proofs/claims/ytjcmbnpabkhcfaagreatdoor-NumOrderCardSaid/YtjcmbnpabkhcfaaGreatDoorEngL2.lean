import Derived.Test.YtjcmbnpabkhcfaaGreatDoorEngL
namespace Go.Proofs.YtjcmbnpabkhcfaaGreatDoor.Eng
open Go.RowKit
open Go Go.Proofs
set_option linter.unusedVariables false
set_option linter.unusedSimpArgs false

def withOps (ops : Array Oper) : List Nat → Option (List (Nat × Oper))
  | [] => some []
  | i :: l => match ops[i]?, withOps ops l with
    | some o, some r => some ((i, o) :: r)
    | _, _ => none
theorem withOps_spec {ops : Array Oper} : ∀ {l : List Nat} {r : List (Nat × Oper)}, withOps ops l = some r → ∀ p ∈ r, ops[p.1]? = some p.2
  | [], r, h, p, hp => by
    simp only [withOps, Option.some.injEq] at h
    subst h
    cases hp
  | i :: l, r, h, p, hp => by
    unfold withOps at h
    split at h
    · rename_i o r' ho hr
      simp only [Option.some.injEq] at h
      subst h
      rcases List.mem_cons.1 hp with rfl | hp
      · exact ho
      · exact withOps_spec hr p hp
    · cases h

/-- Which operations come last, in the text's order: those that write, and what waits for them. -/
def sinkKind (calls : Bool) : Op → Bool
  | .store .. => true
  | .mapUpdate .. => true
  | .entryStore .. => true
  | .assign _ => calls
  | .call ⟨.builtin .append, _, _⟩ => true
  | .call ⟨.builtin .copy, _, _⟩ => true
  | .call ⟨.builtin .delete, _, _⟩ => true
  | .call ⟨.builtin .unsafeString, _, _⟩ => true
  | .call ⟨.builtin _, _, _⟩ => false
  | .call _ => calls
  | _ => false
def lastCall : Nat → List Oper → Nat → Nat
  | _, [], n => n
  | i, o :: l, n => match sinkKind true o.op && !sinkKind false o.op && (match o.op with | .assign _ => false | _ => true) with
    | true => lastCall (i + 1) l i
    | false => lastCall (i + 1) l n
/-- Which operations begin the tail: 0: what writes; 1: every call too; n + 2: the operation n too. -/
def sinkAt (mode i : Nat) (o : Oper) : Bool := match mode with
  | 0 => sinkKind false o.op
  | 1 => sinkKind true o.op
  | m + 2 => sinkKind false o.op || m == i
def tailsOf (mode : Nat) : Nat → List Oper → List Nat → List Nat
  | _, [], acc => acc.reverse
  | i, o :: l, acc => match sinkAt mode i o || o.after.any (fun e => Region.binds .any e && acc.contains e.on) with
    | true => tailsOf mode (i + 1) l (i :: acc)
    | false => tailsOf mode (i + 1) l acc
def planOf (ops : Array Oper) (calls : Nat) : Option (List (Nat × Oper) × List (Nat × Oper)) :=
  match withOps ops ((List.range ops.size).filter fun i => !(tailsOf calls 0 ops.toList []).contains i), withOps ops (tailsOf calls 0 ops.toList []) with
  | some L, some T => match drawOk ops L T with
    | true => some (L, T)
    | false => none
  | _, _ => none
theorem planOf_spec {ops : Array Oper} {calls : Nat} {L T : List (Nat × Oper)} (h : planOf ops calls = some (L, T)) : drawOk ops L T = true ∧ (∀ p ∈ L, ops[p.1]? = some p.2) ∧ ∀ p ∈ T, ops[p.1]? = some p.2 := by
  unfold planOf at h
  split at h
  · rename_i L' T' hL hT
    split at h
    · rename_i hok
      simp only [Option.some.injEq, Prod.mk.injEq] at h
      obtain ⟨rfl, rfl⟩ := h
      exact ⟨hok, withOps_spec hL, withOps_spec hT⟩
    · cases h
  · cases h

def drawWith (P : Program) (G n : Nat) (call : CallE) (ops : Array Oper) (calls : Nat) (fr : Fr) (h : H) : Option (Fr × H) := match planOf ops calls with
  | some (L, T) => match headE P G n call ops L fr h with
    | some (fr1, h1) => opsE P G n call ops (T.map (·.2)) fr1 ⟨h1.mem, h1.next, h.low⟩
    | none => none
  | none => none
def drawE (P : Program) (G n : Nat) (call : CallE) (ops : Array Oper) (fr : Fr) (h : H) : Option (Fr × H) := match drawWith P G n call ops 0 fr h with
  | some r => some r
  | none => match drawWith P G n call ops 1 fr h with
    | some r => some r
    | none => drawWith P G n call ops (lastCall 0 ops.toList 0 + 2) fr h

theorem headE_hr {P : Program} {G n : Nat} {call : CallE} {ops : Array Oper} {L T : List (Nat × Oper)} {fr fr1 : Fr} {h h1 : H} (hok : drawOk ops L T = true) (hL : ∀ p ∈ L, ops[p.1]? = some p.2) (he : headE P G n call ops L fr h = some (fr1, h1)) :
    ∃ F Hh V, HR P G n call ops L F Hh V ∧ F 0 = fr ∧ Hh 0 = h ∧ F L.length = fr1 ∧ Hh L.length = h1 := by
  simp only [drawOk, Bool.and_eq_true] at hok
  obtain ⟨⟨⟨⟨⟨⟨⟨⟨hhead, _⟩, _⟩, _⟩, _⟩, _⟩, _⟩, _⟩, _⟩ := hok
  obtain ⟨F, Hh, V, f0, H0, f1, H1, hk⟩ := headE_tr he
  obtain ⟨s1, s2⟩ := headOk_spec hhead
  refine ⟨F, Hh, V, ⟨fun k i o hko => hL (i, o) (List.mem_of_getElem? hko), fun k i o hko => (hk k i o hko).1, fun k i o hko => (hk k i o hko).2.1, fun k i o hko => (hk k i o hko).2.2, fun k i o hko => ?_, s2⟩, f0, H0, f1, H1⟩
  obtain ⟨a, b⟩ := s1 k i o hko
  exact ⟨a, fun e he hb => (b e he hb).resolve_left (by simp)⟩

theorem drawWith_hs {P : Program} {G n : Nat} {call : CallE} {ops : Array Oper} {calls : Nat} {fr fr' : Fr} {h h' : H} (hc : CallOk P G call) (he : drawWith P G n call ops calls fr h = some (fr', h')) : HS h h' := by
  unfold drawWith at he
  split at he
  · rename_i L T hp
    obtain ⟨hok, hL, _⟩ := planOf_spec hp
    split at he
    · rename_i fr1 h1 hh
      obtain ⟨F, Hh, V, r, _, H0, _, H1⟩ := headE_hr hok hL hh
      have h2 := r.mono' hc (Nat.zero_le L.length) (Nat.le_refl _)
      rw [H0, H1] at h2
      exact (⟨h2.1, Nat.le_refl _, fun i hi _ => h2.2 i hi⟩ : HS h ⟨h1.mem, h1.next, h.low⟩).trans (opsE_hs hc he)
    · cases he
  · cases he
theorem drawE_hs {P : Program} {G n : Nat} {call : CallE} {ops : Array Oper} {fr fr' : Fr} {h h' : H} (hc : CallOk P G call) (he : drawE P G n call ops fr h = some (fr', h')) : HS h h' := by
  unfold drawE at he
  split at he
  · rename_i r hr
    simp only [Option.some.injEq] at he
    subst he
    exact drawWith_hs hc hr
  · split at he
    · rename_i r hr
      simp only [Option.some.injEq] at he
      subst he
      exact drawWith_hs hc hr
    · exact drawWith_hs hc he

def quietQ (Q : Exit → Act → World → Prop) : Exit → Act → World → Prop
  | .normal, a, w => Q .normal a w
  | _, _, _ => False
theorem drawWith_ok {P : Program} {G n : Nat} {call : CallE} {ops : Array Oper} {calls : Nat} {fr fr' : Fr} {h h' : H} {φ0 : Phi} {a : Act} {w : World} (hmx : P.follows .mixedOrders = true) (hc : CallOk P G call) (hw : WR φ0 h w) (hg : GR φ0 G) (hf : FR φ0 G fr n a)
    (he : drawWith P G n call ops calls fr h = some (fr', h')) {Q : Exit → Act → World → Prop} (hQ : ∀ φ' a' w', FR φ' G fr' n a' → a'.defers = a.defers → Step φ0 h w φ' h' w' → Q .normal a' w') (id : Nat) : (Code.region id ops true).wp P Q a w := by
  unfold drawWith at he
  split at he
  · rename_i L T hpl
    obtain ⟨hok, hL, hT⟩ := planOf_spec hpl
    split at he
    · rename_i fr1 h1 hh
      obtain ⟨F, Hh, V, r, rfl, rfl, rfl, rfl⟩ := headE_hr hok hL hh
      have hok' := hok
      simp only [drawOk, Bool.and_eq_true, decide_eq_true_eq] at hok'
      obtain ⟨⟨⟨⟨⟨⟨⟨⟨hhead, hlen⟩, hns⟩, hcov⟩, hdis⟩, hneed⟩, hpure⟩, hchain⟩, hseq⟩ := hok'
      have hwd : WR φ0 (Hh 0) w.drew := WR.congr (w := w) rfl hw
      refine Code.wp_mono (Q := quietQ Q) (fun e a w h => by cases e <;> first | exact h | exact h.elim) (wp_region_any hmx ?_)
      have hrep : ∀ j, (Array.replicate ops.size false).getD j false = false := fun j => getD_replicate_false _ _
      have hm0 := r.mono' hc (Nat.zero_le L.length) (Nat.le_refl _)
      have inv0 : Inv L n Hh V φ0 a w.drew (fun k => (Array.replicate ops.size false).getD k false) φ0 a w.drew := by
        refine ⟨fun i e p hi hp => ?_, fun i j p q hi hj hp hq hij => ?_, fun _ _ => rfl, fun i p hp => ⟨(hwd.dom i p hp).2, .inl (hwd.dom i p hp).1⟩, hf.size, rfl, fun _ _ => rfl, fun k i o t _ _ hS => ?_, rfl, rfl, rfl, Nat.le_refl _, fun _ _ => rfl, fun i p hp h0 => ?_⟩
        · have hlt := (hwd.dom i p hp).1
          refine ⟨(Hh 0).next, .inl ⟨hlt, rfl⟩, ?_⟩
          rw [hm0.2 i hlt] at hi
          refine (hwd.ent i e p hi hp).mono (fun j q hj => ?_) rfl
          unfold cutφ
          rw [if_pos (hwd.dom j q hj).1]
          exact hj
        · have h1 := (hwd.dom i p hp).1
          have h2 := (hwd.dom j q hq).1
          rw [hm0.2 i h1] at hi
          rw [hm0.2 j h2] at hj
          exact hwd.sep i j p q hi hj hp hq hij
        · simp only [hrep] at hS
          cases hS
        · have := (hwd.dom i p hp).1
          omega
      have hinv0 : HInv ops T (Array.replicate ops.size false) := ⟨by simp, fun j oj _ hl => (by rw [getD_replicate_false] at hl; cases hl), fun p _ => getD_replicate_false _ _⟩
      have hcnt : ∀ l : List (Nat × Oper), cntL (Array.replicate ops.size false) l = l.length := fun l => by
        induction l with
        | nil => rfl
        | cons p l ih => rw [cntL, ih, hrep]; simp
      have H := draw_any (Q := quietQ Q) hok hT r hc hg hwd hf (fun c a w h => h) (fun φ a' w' inv hall => ?_) L.length _ φ0 a w.drew inv0 hinv0 (hcnt L)
      · rw [hlen] at H
        exact H
      · have hle : φ0.le φ := fun i p hi => by rw [inv.old i (hwd.dom i p hi).1]; exact hi
        have hfm : FR φ G (F L.length) n a' := by
          refine ⟨inv.size, fun t => ?_⟩
          by_cases hex : ∃ (j i : Nat) (oj : Oper), L[j]? = some (i, oj) ∧ oj.dst = some t
          · obtain ⟨j, i, oj, hoj, hd⟩ := hex
            rw [(r.slot t (Nat.le_refl _)).1 j i oj (ltL hoj) hoj hd]
            exact (inv.val j i oj t hoj hd (hall (i, oj) (List.mem_of_getElem? hoj))).mono (cutφ_le _ _)
          · rw [(r.slot t (Nat.le_refl _)).2 fun j i oj _ hoj hd => hex ⟨j, i, oj, hoj, hd⟩, inv.tmp t fun j i oj hoj hd => (hex ⟨j, i, oj, hoj, hd⟩).elim]
            exact (hf.val t).mono hle
        have hst : Step φ0 (Hh 0) w φ ⟨(Hh L.length).mem, (Hh L.length).next, (Hh 0).low⟩ w' := by
          refine ⟨⟨fun i e p hi hp => ?_, inv.sep, fun i p hp => ?_⟩, ⟨hm0.1, Nat.le_refl _, fun i hi _ => hm0.2 i hi⟩, ⟨inv.old, inv.os, inv.tape, inv.output, inv.hsize, fun b hb _ => inv.frame b hb, fun i p hp hb => ?_⟩⟩
          · obtain ⟨b, _, her⟩ := inv.ent i e p hi hp
            exact her.mono (cutφ_le _ _) rfl
          · obtain ⟨h1, h2⟩ := inv.dom i p hp
            refine ⟨?_, h1⟩
            rcases h2 with h2 | ⟨k, ik, o, hk, _, _, h4⟩
            · exact Nat.lt_of_lt_of_le h2 hm0.1
            · exact Nat.lt_of_lt_of_le h4 (r.mono' hc (ltL hk) (Nat.le_refl _)).1
          · rcases Nat.lt_or_ge i (Hh 0).next with h | h
            · rw [inv.old i h] at hp
              exact .inl hp
            · have h5 := inv.fresh i p hp h
              have h6 : w.drew.heap.size = w.heap.size := rfl
              omega
        have hTl := opsE_ok (Q := quietQ Q) hc hst.wr (hg.mono hle) hfm he fun φ2 a2 w2 hf2 hd2 hs2 => hQ φ2 a2 w2 hf2 (hd2.trans inv.defers) (hst.trans hs2)
        exact wpAny_of_seqT hns (fun c a w h => h) (fun ⟨_, _, h⟩ => h) T (listedH ops L) a' w' hT hseq hTl
    · cases he
  · cases he
theorem drawE_ok {P : Program} {G n : Nat} {call : CallE} {ops : Array Oper} {fr fr' : Fr} {h h' : H} {φ0 : Phi} {a : Act} {w : World} (hmx : P.follows .mixedOrders = true) (hc : CallOk P G call) (hw : WR φ0 h w) (hg : GR φ0 G) (hf : FR φ0 G fr n a)
    (he : drawE P G n call ops fr h = some (fr', h')) {Q : Exit → Act → World → Prop} (hQ : ∀ φ' a' w', FR φ' G fr' n a' → a'.defers = a.defers → Step φ0 h w φ' h' w' → Q .normal a' w') (id : Nat) : (Code.region id ops true).wp P Q a w := by
  unfold drawE at he
  split at he
  · rename_i r hr
    simp only [Option.some.injEq] at he
    subst he
    exact drawWith_ok hmx hc hw hg hf hr hQ id
  · split at he
    · rename_i r hr
      simp only [Option.some.injEq] at he
      subst he
      exact drawWith_ok hmx hc hw hg hf hr hQ id
    · exact drawWith_ok hmx hc hw hg hf he hQ id
end Go.Proofs.YtjcmbnpabkhcfaaGreatDoor.Eng
