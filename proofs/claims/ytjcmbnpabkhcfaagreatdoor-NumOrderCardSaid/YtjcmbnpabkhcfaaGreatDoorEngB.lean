import Derived.Test.YtjcmbnpabkhcfaaGreatDoorEngA
namespace Go.Proofs.YtjcmbnpabkhcfaaGreatDoor.Eng
open Go.RowKit
open Go Go.Proofs
set_option linter.unusedVariables false
set_option linter.unusedSimpArgs false

/-- What lies in a block: cells (may they be written?), or a map. -/
inductive Ent where
  | row (cells : List EV) (ro : Bool)
  | map (es : List (EV × EV × Nat)) (clock : Nat)

structure H where
  mem : Tr Ent
  next : Nat
  low : Nat

def depth : Nat := 40

def H.new (h : H) (e : Ent) : Option H := match h.mem.set depth h.next (some e) with
  | some m => some ⟨m, h.next + 1, h.low⟩
  | none => none
def H.put (h : H) (i : Nat) (e : Option Ent) : Option H := match h.mem.set depth i e with
  | some m => some ⟨m, h.next, min h.low i⟩
  | none => none

inductive MRs (φ : Phi) : List (EV × EV × Nat) → List MapEntry → Prop where
  | nil : MRs φ [] []
  | cons {k v n k' v' l x} : VR φ k k' → VR φ v v' → MRs φ l x → MRs φ ((k, v, n) :: l) (⟨k', v', n⟩ :: x)
theorem MRs.mono {φ φ' : Phi} (hl : φ.le φ') : ∀ {l x}, MRs φ l x → MRs φ' l x
  | _, _, .nil => .nil
  | _, _, .cons a b c => .cons (a.mono hl) (b.mono hl) (c.mono hl)

def ER (φ : Phi) (w : World) (p : Pl) : Ent → Prop
  | .row cells ro => (∃ x, VRs φ cells x ∧ w.rangeAt p.b p.k x ∧ ∀ v ∈ x, v.oneCell' = true) ∧ cells.length ≤ p.m ∧ (ro = false → w.there p.b p.k p.m)
  | .map es clock => ∃ x, MRs φ es x ∧ w.heap[p.b]? = some (.map ⟨x⟩ clock)

theorem cell_block {w w' : World} {b : Nat} (h : w'.heap[b]? = w.heap[b]?) (o : Nat) (s : Option Nat) : w'.cell? ⟨b, o, s⟩ = w.cell? ⟨b, o, s⟩ := World.cell?_of_block (w := w) h
theorem frozen_block {w w' : World} {b : Nat} (h : w'.heap[b]? = w.heap[b]?) (o : Nat) (s : Option Nat) : w'.frozen? ⟨b, o, s⟩ = w.frozen? ⟨b, o, s⟩ := World.frozen?_of_block (w := w) h
theorem range_block {w w' : World} {b : Nat} (h : w'.heap[b]? = w.heap[b]?) {o : Nat} {x : List Value} (hr : w.rangeAt b o x) : w'.rangeAt b o x := fun j v hv => (cell_block h _ _).trans (hr j v hv)
theorem there_block {w w' : World} {b : Nat} (h : w'.heap[b]? = w.heap[b]?) {o n : Nat} (hr : w.there b o n) : w'.there b o n := fun j hj => by
  rw [cell_block h, frozen_block h]
  exact hr j hj

theorem ER.mono {φ φ' : Phi} {w w' : World} {p : Pl} {e : Ent} (hl : φ.le φ') (hb : w'.heap[p.b]? = w.heap[p.b]?) (h : ER φ w p e) : ER φ' w' p e := by
  cases e with
  | row cells ro =>
    obtain ⟨⟨x, h1, h2, h3⟩, h4, h5⟩ := h
    exact ⟨⟨x, h1.mono hl, range_block hb h2, h3⟩, h4, fun hr => there_block hb (h5 hr)⟩
  | map es clock =>
    obtain ⟨x, h1, h2⟩ := h
    exact ⟨x, h1.mono hl, hb.trans h2⟩

structure WR (φ : Phi) (h : H) (w : World) : Prop where
  ent : ∀ i e p, h.mem.get i = some e → φ i = some p → ER φ w p e
  sep : ∀ i j p q, (h.mem.get i).isSome = true → (h.mem.get j).isSome = true → φ i = some p → φ j = some q → i ≠ j → p.b ≠ q.b
  dom : ∀ i p, φ i = some p → i < h.next ∧ p.b < w.heap.size

structure HS (h h' : H) : Prop where
  next : h.next ≤ h'.next
  low : h'.low ≤ h.low
  keep : ∀ i, i < h.next → i < h'.low → h'.mem.get i = h.mem.get i

structure PS (φ : Phi) (h : H) (w : World) (φ' : Phi) (h' : H) (w' : World) : Prop where
  old : ∀ i, i < h.next → φ' i = φ i
  os : w'.os = w.os
  tape : w'.tape = w.tape
  output : w'.output = w.output
  size : w.heap.size ≤ w'.heap.size
  frame : ∀ b, b < w.heap.size → (∀ i p, φ i = some p → p.b = b → i < h'.low) → w'.heap[b]? = w.heap[b]?
  fresh : ∀ i p, φ' i = some p → p.b < w.heap.size → φ i = some p ∨ ∃ j q, φ j = some q ∧ q.b = p.b ∧ h'.low ≤ j

structure Step (φ : Phi) (h : H) (w : World) (φ' : Phi) (h' : H) (w' : World) : Prop where
  wr : WR φ' h' w'
  hs : HS h h'
  ps : PS φ h w φ' h' w'

theorem HS.refl (h : H) : HS h h := ⟨Nat.le_refl _, Nat.le_refl _, fun _ _ _ => rfl⟩
theorem HS.trans {a b c : H} (h : HS a b) (k : HS b c) : HS a c :=
  ⟨Nat.le_trans h.next k.next, Nat.le_trans k.low h.low, fun i hi hl => (k.keep i (Nat.lt_of_lt_of_le hi h.next) hl).trans (h.keep i hi (Nat.lt_of_lt_of_le hl k.low))⟩

theorem Step.le {φ h w φ' h' w'} (hw : WR φ h w) (s : Step φ h w φ' h' w') : φ.le φ' := fun i p hi => (s.ps.old i (hw.dom i p hi).1).trans hi

theorem Step.refl {φ h w} (hw : WR φ h w) : Step φ h w φ h w := ⟨hw, .refl h, ⟨fun _ _ => rfl, rfl, rfl, rfl, Nat.le_refl _, fun _ _ _ => rfl, fun _ _ hi _ => .inl hi⟩⟩

theorem Step.trans {φ h w φ1 h1 w1 φ2 h2 w2} (s : Step φ h w φ1 h1 w1) (t : Step φ1 h1 w1 φ2 h2 w2) : Step φ h w φ2 h2 w2 where
  wr := t.wr
  hs := s.hs.trans t.hs
  ps := {
    old := fun i hi => (t.ps.old i (Nat.lt_of_lt_of_le hi s.hs.next)).trans (s.ps.old i hi)
    os := t.ps.os.trans s.ps.os
    tape := t.ps.tape.trans s.ps.tape
    output := t.ps.output.trans s.ps.output
    size := Nat.le_trans s.ps.size t.ps.size
    frame := fun b hb hc => by
      have h1 := s.ps.frame b hb fun i p hi hp => Nat.lt_of_lt_of_le (hc i p hi hp) t.hs.low
      refine (t.ps.frame b (Nat.lt_of_lt_of_le hb s.ps.size) fun i p hi hp => ?_).trans h1
      rcases s.ps.fresh i p hi (hp ▸ hb) with h | ⟨j, q, hj, hq, hl⟩
      · exact hc i p h hp
      · have := hc j q hj (hq.trans hp)
        have := t.hs.low
        omega
    fresh := fun i p hi hp => by
      have hl := t.hs.low
      rcases t.ps.fresh i p hi (Nat.lt_of_lt_of_le hp s.ps.size) with h | ⟨j, q, hj, hq, hjl⟩
      · rcases s.ps.fresh i p h hp with h | ⟨j, q, hj, hq, hjl⟩
        · exact .inl h
        · exact .inr ⟨j, q, hj, hq, by omega⟩
      · rcases s.ps.fresh j q hj (hq ▸ hp) with h | ⟨j', q', hj', hq', hjl'⟩
        · exact .inr ⟨j, q, h, hq, hjl⟩
        · exact .inr ⟨j', q', hj', hq'.trans hq, by omega⟩ }

/-- A world that differs in nothing that is looked at. -/
theorem WR.congr {φ h} {w w' : World} (hh : w'.heap = w.heap) (hw : WR φ h w) : WR φ h w' :=
  ⟨fun i e p a b => (hw.ent i e p a b).mono (fun _ _ h => h) (by rw [hh]), hw.sep, fun i p a => by rw [hh]; exact hw.dom i p a⟩
theorem Step.of_world {φ h} {w w' : World} (hh : w'.heap = w.heap) (ho : w'.os = w.os) (ht : w'.tape = w.tape) (hu : w'.output = w.output) (hw : WR φ h w) : Step φ h w φ h w' :=
  ⟨hw.congr hh, .refl h, ⟨fun _ _ => rfl, ho, ht, hu, by rw [hh]; exact Nat.le_refl _, fun _ _ _ => by rw [hh], fun _ _ hi _ => .inl hi⟩⟩
theorem Step.drew {φ h} {w : World} (hw : WR φ h w) : Step φ h w φ h w.drew := .of_world rfl rfl rfl rfl hw

def Phi.put (φ : Phi) (n : Nat) (p : Pl) : Phi := fun i => if i = n then some p else φ i
theorem Phi.put_same (φ : Phi) (n : Nat) (p : Pl) : φ.put n p n = some p := if_pos rfl
theorem Phi.put_ne (φ : Phi) {n i : Nat} (p : Pl) (h : i ≠ n) : φ.put n p i = φ i := if_neg h

theorem H.new_spec {h h' : H} {e : Ent} (hn : h.new e = some h') : h'.next = h.next + 1 ∧ h'.low = h.low ∧ h'.mem.get h.next = some e ∧ ∀ i, i ≠ h.next → h'.mem.get i = h.mem.get i := by
  unfold H.new at hn
  split at hn
  · rename_i m hm
    simp only [Option.some.injEq] at hn
    subst hn
    obtain ⟨h1, h2⟩ := Tr.set_get _ _ _ _ _ hm
    exact ⟨rfl, rfl, h1, h2⟩
  · cases hn
theorem H.put_spec {h h' : H} {i : Nat} {e : Option Ent} (hn : h.put i e = some h') : h'.next = h.next ∧ h'.low = min h.low i ∧ h'.mem.get i = e ∧ ∀ j, j ≠ i → h'.mem.get j = h.mem.get j := by
  unfold H.put at hn
  split at hn
  · rename_i m hm
    simp only [Option.some.injEq] at hn
    subst hn
    obtain ⟨h1, h2⟩ := Tr.set_get _ _ _ _ _ hm
    exact ⟨rfl, rfl, h1, h2⟩
  · cases hn

theorem heap_alloc_size (w : World) (o : Obj) : (w.alloc o).heap.size = w.heap.size + 1 := by
  show (w.heap.push o).size = _
  simp
theorem heap_alloc_new (w : World) (o : Obj) : (w.alloc o).heap[w.heap.size]? = some o := by
  show (w.heap.push o)[w.heap.size]? = _
  simp

/-- A new block. -/
theorem Step.alloc {φ : Phi} {h h' : H} {w : World} {e : Ent} {o : Obj} {m : Nat} (hw : WR φ h w) (hn : h.new e = some h')
    (he : ∀ φ' : Phi, φ.le φ' → ER φ' (w.alloc o) ⟨w.heap.size, 0, m⟩ e) : Step φ h w (φ.put h.next ⟨w.heap.size, 0, m⟩) h' (w.alloc o) := by
  obtain ⟨h1, h2, h3, h4⟩ := H.new_spec hn
  have hnone : φ h.next = none := by
    cases hc : φ h.next with
    | none => rfl
    | some p => exact absurd (hw.dom _ _ hc).1 (Nat.lt_irrefl _)
  have hle : φ.le (φ.put h.next ⟨w.heap.size, 0, m⟩) := fun i p hi => by
    rw [Phi.put_ne _ _ (fun he => by rw [he, hnone] at hi; cases hi)]; exact hi
  refine ⟨⟨?_, ?_, ?_⟩, ⟨by omega, by omega, fun i hi _ => h4 i (by omega)⟩, ⟨fun i hi => Phi.put_ne _ _ (by omega), rfl, rfl, rfl, by rw [heap_alloc_size]; omega, fun b hb _ => Below.heap_alloc _ _ _ hb, ?_⟩⟩
  · intro i e' p hi hp
    by_cases hin : i = h.next
    · subst hin
      rw [Phi.put_same] at hp
      rw [h3] at hi
      cases hp
      cases hi
      exact he _ hle
    · rw [Phi.put_ne _ _ hin] at hp
      rw [h4 i hin] at hi
      exact (hw.ent i e' p hi hp).mono hle (Below.heap_alloc _ _ _ (hw.dom i p hp).2)
  · intro i j p q hi hj hp hq hij
    by_cases hin : i = h.next
    · subst hin
      rw [Phi.put_same] at hp
      rw [Phi.put_ne _ _ (fun e => hij e.symm)] at hq
      cases hp
      exact fun e => absurd (hw.dom j q hq).2 (by rw [← e]; exact Nat.lt_irrefl _)
    · rw [Phi.put_ne _ _ hin] at hp
      rw [h4 i hin] at hi
      by_cases hjn : j = h.next
      · subst hjn
        rw [Phi.put_same] at hq
        cases hq
        exact fun e => absurd (hw.dom i p hp).2 (by rw [e]; exact Nat.lt_irrefl _)
      · rw [Phi.put_ne _ _ hjn] at hq
        rw [h4 j hjn] at hj
        exact hw.sep i j p q hi hj hp hq hij
  · intro i p hp
    by_cases hin : i = h.next
    · subst hin
      rw [Phi.put_same] at hp
      cases hp
      exact ⟨by omega, by rw [heap_alloc_size]; exact Nat.lt_succ_self _⟩
    · rw [Phi.put_ne _ _ hin] at hp
      have := hw.dom i p hp
      exact ⟨by omega, by rw [heap_alloc_size]; omega⟩
  · intro i p hp hb
    by_cases hin : i = h.next
    · subst hin
      rw [Phi.put_same] at hp
      cases hp
      exact absurd hb (Nat.lt_irrefl _)
    · rw [Phi.put_ne _ _ hin] at hp
      exact .inl hp

theorem ER.new_row {φ : Phi} {w : World} {cells : List EV} {x : List Value} {C : Array Value} {t : TypeId} (hx : VRs φ cells x) (h1 : ∀ v ∈ x, v.oneCell' = true) (hC : ∀ (j : Nat) (v : Value), x[j]? = some v → C[j]? = some v) (hl : x.length ≤ C.size) :
    ER φ (w.alloc (.cells C t)) ⟨w.heap.size, 0, C.size⟩ (.row cells false) := by
  have hh := heap_alloc_new w (.cells C t)
  have hc : ∀ j, (w.alloc (.cells C t)).cell? ⟨w.heap.size, 0 + j, none⟩ = C[j]? := fun j => by
    unfold World.cell?
    simp only [hh, Option.isSome_none, Bool.false_eq_true, if_false, Nat.zero_add]
  refine ⟨⟨x, hx, fun j v hv => by rw [hc]; exact hC j v hv, h1⟩, by rw [hx.length]; exact hl, fun _ j hj => ⟨?_, ?_⟩⟩
  · rw [hc]
    simp only at hj
    simp [hj]
  · unfold World.frozen?
    simp only [hh]
    simp

theorem heap_setCells (b : Nat) : ∀ (vs : List Value) (o : Nat) (w : World) (k : Nat), k ≠ b → (w.setCells b o vs).heap[k]? = w.heap[k]?
  | [], _, _, _, _ => rfl
  | v :: r, o, w, k, h => by rw [World.setCells, heap_setCells b r _ _ k h]; exact Below.heap_setCell _ _ _ _ h
theorem setCells_size (b : Nat) : ∀ (vs : List Value) (o : Nat) (w : World), (w.setCells b o vs).heap.size = w.heap.size
  | [], _, _ => rfl
  | v :: r, o, w => by rw [World.setCells, setCells_size b r]; simp [World.setCell]
theorem setCells_rest (b : Nat) : ∀ (vs : List Value) (o : Nat) (w : World), (w.setCells b o vs).os = w.os ∧ (w.setCells b o vs).tape = w.tape ∧ (w.setCells b o vs).output = w.output
  | [], _, _ => ⟨rfl, rfl, rfl⟩
  | v :: r, o, w => by rw [World.setCells]; exact setCells_rest b r _ _

def writeAt : List EV → Nat → List EV → Option (List EV)
  | l, 0, [] => some l
  | _ :: l, 0, v :: vs => match writeAt l 0 vs with | some r => some (v :: r) | none => none
  | [], 0, _ :: _ => none
  | x :: l, n + 1, vs => match writeAt l n vs with | some r => some (x :: r) | none => none
  | [], _ + 1, _ => none

theorem writeAt_rel {φ : Phi} : ∀ {l x : List _} {o es r vs}, VRs φ l x → VRs φ es vs → writeAt l o es = some r →
    o + vs.length ≤ x.length ∧ VRs φ r (x.take o ++ vs ++ x.drop (o + vs.length))
  | _, _, 0, [], _, _, hl, .nil, h => by
    simp only [writeAt, Option.some.injEq] at h
    subst h
    simpa using hl
  | _, _, 0, _ :: es, _, _, .cons a b, .cons c d, h => by
    simp only [writeAt] at h
    split at h
    · rename_i r' hr
      simp only [Option.some.injEq] at h
      subst h
      obtain ⟨h1, h2⟩ := writeAt_rel b d hr
      refine ⟨by simp at h1 ⊢; exact h1, ?_⟩
      simp only [List.take_zero, List.nil_append, Nat.zero_add, List.length_cons, List.drop_succ_cons, List.cons_append] at h2 ⊢
      exact .cons c h2
    · cases h
  | _, _, 0, _ :: _, _, _, .nil, .cons _ _, h => by simp only [writeAt] at h; cases h
  | _, _, n + 1, es, _, vs, .cons a b, hv, h => by
    simp only [writeAt] at h
    split at h
    · rename_i r' hr
      simp only [Option.some.injEq] at h
      subst h
      obtain ⟨h1, h2⟩ := writeAt_rel b hv hr
      refine ⟨by simp at h1 ⊢; omega, ?_⟩
      have : n + 1 + vs.length = (n + vs.length) + 1 := by omega
      rw [this]
      exact .cons a h2
    · cases h
  | _, _, n + 1, _, _, _, .nil, _, h => by simp only [writeAt] at h; cases h

/-- Cells of a row are written. -/
theorem Step.put {φ : Phi} {h h' : H} {w : World} {i : Nat} {p : Pl} {cells es cs : List EV} {ro : Bool} {o : Nat} {vs : List Value} (hw : WR φ h w) (hi : h.mem.get i = some (.row cells ro)) (hp : φ i = some p) (hro : ro = false)
    (hvs : VRs φ es vs) (h1 : ∀ v ∈ vs, v.oneCell' = true) (hwr : writeAt cells o es = some cs) (hn : h.put i (some (.row cs ro)) = some h') :
    (w.there p.b (p.k + o) vs.length) ∧ Step φ h w φ h' (w.setCells p.b (p.k + o) vs) := by
  obtain ⟨n1, n2, n3, n4⟩ := H.put_spec hn
  obtain ⟨⟨x, hx, hr, hone⟩, hlen, hth⟩ := hw.ent i _ p hi hp
  obtain ⟨l1, l2⟩ := writeAt_rel hx hvs hwr
  have hxl := hx.length
  have hth0 := hth hro
  have hth1 : w.there p.b (p.k + o) vs.length := fun j hj => by
    have := hth0 (o + j) (by omega)
    rwa [← Nat.add_assoc] at this
  refine ⟨hth1, ⟨⟨?_, ?_, ?_⟩, ⟨by omega, by omega, fun j hj hl => n4 j (by omega)⟩, ⟨fun _ _ => rfl, (setCells_rest _ _ _ _).1, (setCells_rest _ _ _ _).2.1, (setCells_rest _ _ _ _).2.2, by rw [setCells_size]; exact Nat.le_refl _, ?_, fun _ _ hi _ => .inl hi⟩⟩⟩
  · intro j e q hj hq
    by_cases hji : j = i
    · subst hji
      rw [n3] at hj
      rw [hp] at hq
      cases hj
      cases hq
      refine ⟨⟨_, l2, fun a v hv => ?_, fun v hv => ?_⟩, ?_, fun _ => World.there_setCells hth0 _ _ _⟩
      · by_cases ha : a < o
        · have hv' : x[a]? = some v := by
            rw [List.append_assoc, List.getElem?_append_left (by simp; omega), List.getElem?_take_of_lt ha] at hv
            exact hv
          rw [World.cell?_setCells_out _ _ _ _ _ (fun _ _ => .inl (by show p.k + a < p.k + o; omega))]
          exact hr a v hv'
        · by_cases ha2 : a < o + vs.length
          · have hv' : vs[a - o]? = some v := by
              rw [List.append_assoc, List.getElem?_append_right (by simp; omega), List.getElem?_append_left (by simp; omega)] at hv
              simpa [Nat.min_eq_left (show o ≤ x.length by omega)] using hv
            have := World.rangeAt_setCells_same w p.b (p.k + o) vs hth1 (a - o) v hv'
            rwa [show p.k + o + (a - o) = p.k + a by omega] at this
          · have hv' : x[a]? = some v := by
              rw [List.getElem?_append_right (by simp; omega), List.getElem?_drop] at hv
              have e : o + vs.length + (a - (x.take o ++ vs).length) = a := by simp; omega
              rwa [e] at hv
            rw [World.cell?_setCells_out _ _ _ _ _ (fun _ _ => .inr (by show p.k + o + vs.length ≤ p.k + a; omega))]
            exact hr a v hv'
      · simp only [List.mem_append] at hv
        rcases hv with (hv | hv) | hv
        · exact hone v (List.mem_of_mem_take hv)
        · exact h1 v hv
        · exact hone v (List.mem_of_mem_drop hv)
      · have := l2.length
        simp only [List.length_append, List.length_take, List.length_drop] at this
        omega
    · rw [n4 j hji] at hj
      have hne := hw.sep j i q p (by rw [hj]; rfl) (by rw [hi]; rfl) hq hp hji
      exact (hw.ent j e q hj hq).mono (fun _ _ h => h) (heap_setCells _ _ _ _ _ hne)
  · intro a b q r ha hb hq hr' hab
    refine hw.sep a b q r ?_ ?_ hq hr' hab
    · by_cases hai : a = i
      · subst hai; rw [hi]; rfl
      · rwa [n4 a hai] at ha
    · by_cases hbi : b = i
      · subst hbi; rw [hi]; rfl
      · rwa [n4 b hbi] at hb
  · intro a q hq
    rw [n1, setCells_size]
    exact hw.dom a q hq
  · intro b hb hc
    refine heap_setCells _ _ _ _ _ fun e => ?_
    have := hc i p hp e.symm
    omega

/-- A slice grows within its block: the elder row is no longer known, a new one lies in its place. -/
theorem Step.grow {φ : Phi} {h h1 h' : H} {w : World} {i o n : Nat} {p : Pl} {cells es : List EV} {ro : Bool} {vs : List Value} (hw : WR φ h w) (hi : h.mem.get i = some (.row cells ro)) (hp : φ i = some p) (hro : ro = false)
    (hon : o + n ≤ cells.length) (hvs : VRs φ es vs) (hone : ∀ v ∈ vs, v.oneCell' = true) (hroom : o + n + vs.length ≤ p.m) (hd : h.put i none = some h1) (hn : h1.new (.row ((cells.drop o).take n ++ es) false) = some h') :
    (w.there p.b (p.k + o + n) vs.length) ∧ Step φ h w (φ.put h.next ⟨p.b, p.k + o, p.m - o⟩) h' (w.setCells p.b (p.k + o + n) vs) := by
  obtain ⟨d1, d2, d3, d4⟩ := H.put_spec hd
  obtain ⟨n1, n2, n3, n4⟩ := H.new_spec hn
  obtain ⟨⟨x, hx, hr, hxo⟩, hlen, hth⟩ := hw.ent i _ p hi hp
  have hxl := hx.length
  have hth0 := hth hro
  have hth1 : w.there p.b (p.k + o + n) vs.length := fun j hj => by
    have := hth0 (o + n + j) (by omega)
    rwa [show p.k + (o + n + j) = p.k + o + n + j by omega] at this
  rw [d1] at n1 n3 n4
  have hnone : φ h.next = none := by
    cases hc : φ h.next with
    | none => rfl
    | some p => exact absurd (hw.dom _ _ hc).1 (Nat.lt_irrefl _)
  have hilt := (hw.dom i p hp).1
  have hle : φ.le (φ.put h.next ⟨p.b, p.k + o, p.m - o⟩) := fun j q hj => by
    rw [Phi.put_ne _ _ (fun he => by rw [he, hnone] at hj; cases hj)]; exact hj
  have hother : ∀ j, j ≠ h.next → (h'.mem.get j).isSome = true → j ≠ i ∧ h.mem.get j = h'.mem.get j := fun j hj hs => by
    rw [n4 j hj] at hs
    have hji : j ≠ i := fun e => by subst e; rw [d3] at hs; cases hs
    exact ⟨hji, by rw [n4 j hj, d4 j hji]⟩
  refine ⟨hth1, ⟨⟨?_, ?_, ?_⟩, ⟨by omega, by omega, fun j hj hl => ?_⟩, ⟨fun j hj => Phi.put_ne _ _ (by omega), (setCells_rest _ _ _ _).1, (setCells_rest _ _ _ _).2.1, (setCells_rest _ _ _ _).2.2, by rw [setCells_size]; exact Nat.le_refl _, ?_, ?_⟩⟩⟩
  · intro j e q hj hq
    by_cases hjn : j = h.next
    · subst hjn
      rw [n3] at hj
      rw [Phi.put_same] at hq
      cases hj
      cases hq
      have hxx := ((hx.drop o).take n)
      have hxn : ((x.drop o).take n).length = n := by simp; omega
      refine ⟨⟨(x.drop o).take n ++ vs, (hxx.append hvs).mono hle, fun a v hv => ?_, fun v hv => ?_⟩, ?_, fun _ a ha => ?_⟩
      · by_cases ha : a < n
        · rw [List.getElem?_append_left (by omega), List.getElem?_take_of_lt ha, List.getElem?_drop] at hv
          rw [World.cell?_setCells_out _ _ _ _ _ (fun _ _ => .inl (by show p.k + o + a < p.k + o + n; omega))]
          have := hr (o + a) v hv
          rwa [← Nat.add_assoc] at this
        · rw [List.getElem?_append_right (by omega), hxn] at hv
          have := World.rangeAt_setCells_same w p.b (p.k + o + n) vs hth1 (a - n) v hv
          rwa [show p.k + o + n + (a - n) = p.k + o + a by omega] at this
      · simp only [List.mem_append] at hv
        rcases hv with hv | hv
        · exact hxo v (List.mem_of_mem_drop (List.mem_of_mem_take hv))
        · exact hone v hv
      · have := (hxx.append hvs).length
        simp only [List.length_append] at this ⊢
        omega
      · have := World.there_setCells hth0 p.b (p.k + o + n) vs (o + a) (by simp only at ha; omega)
        rwa [← Nat.add_assoc] at this
    · rw [Phi.put_ne _ _ hjn] at hq
      obtain ⟨hji, he⟩ := hother j hjn (by rw [hj]; rfl)
      rw [← he] at hj
      have hne := hw.sep j i q p (by rw [hj]; rfl) (by rw [hi]; rfl) hq hp hji
      exact (hw.ent j e q hj hq).mono hle (heap_setCells _ _ _ _ _ hne)
  · intro a b q r ha hb hq hr' hab
    by_cases han : a = h.next
    · subst han
      rw [Phi.put_same] at hq
      cases hq
      have hbn : b ≠ h.next := fun e => hab e.symm
      rw [Phi.put_ne _ _ hbn] at hr'
      obtain ⟨hbi, he⟩ := hother b hbn hb
      rw [← he] at hb
      exact hw.sep i b p r (by rw [hi]; rfl) hb hp hr' (fun e => hbi e.symm)
    · rw [Phi.put_ne _ _ han] at hq
      obtain ⟨hai, hea⟩ := hother a han ha
      rw [← hea] at ha
      by_cases hbn : b = h.next
      · subst hbn
        rw [Phi.put_same] at hr'
        cases hr'
        exact hw.sep a i q p ha (by rw [hi]; rfl) hq hp hai
      · rw [Phi.put_ne _ _ hbn] at hr'
        obtain ⟨hbi, heb⟩ := hother b hbn hb
        rw [← heb] at hb
        exact hw.sep a b q r ha hb hq hr' hab
  · intro a q hq
    rw [n1, setCells_size]
    by_cases han : a = h.next
    · subst han
      rw [Phi.put_same] at hq
      cases hq
      exact ⟨by omega, (hw.dom i p hp).2⟩
    · rw [Phi.put_ne _ _ han] at hq
      have := hw.dom a q hq
      exact ⟨by omega, this.2⟩
  · rw [n4 j (by omega), d4 j (by omega)]
  · intro b hb hc
    refine heap_setCells _ _ _ _ _ fun e => ?_
    have := hc i p hp e.symm
    omega
  · intro a q hq hb
    by_cases han : a = h.next
    · subst han
      rw [Phi.put_same] at hq
      cases hq
      exact .inr ⟨i, p, hp, rfl, by omega⟩
    · rw [Phi.put_ne _ _ han] at hq
      exact .inl hq
end Go.Proofs.YtjcmbnpabkhcfaaGreatDoor.Eng
