import Derived.Test.YtjcmbnpabkhcfaaGreatDoorEngB
namespace Go.Proofs.YtjcmbnpabkhcfaaGreatDoor.Eng
open Go.RowKit
open Go Go.Proofs
set_option linter.unusedVariables false
set_option linter.unusedSimpArgs false

abbrev Fr := Tr EV

def ev (G : Nat) (fr : Fr) : Operand → EV
  | .tmp t => match fr.get t with | some v => v | none => .sc undef
  | .const v => .sc v
  | .global g => match decide (g < G) with
    | true => .ptr g 0
    | false => .sc (.pointer (some ⟨g, 0, none⟩))
  | .func f => .sc (.func (.func f) #[] #[])

def GR (φ : Phi) (G : Nat) : Prop := ∀ g, g < G → ∃ m, φ g = some ⟨g, 0, m⟩
structure FR (φ : Phi) (G : Nat) (fr : Fr) (n : Nat) (a : Act) : Prop where
  size : a.tmps.size = n
  val : ∀ t, VR φ (ev G fr (.tmp t)) (a.tmps.getD t undef)
theorem FR.mono {φ φ' : Phi} {G : Nat} {fr : Fr} {n : Nat} {a : Act} (hl : φ.le φ') (h : FR φ G fr n a) : FR φ' G fr n a := ⟨h.size, fun t => (h.val t).mono hl⟩
theorem GR.mono {φ φ' : Phi} {G : Nat} (hl : φ.le φ') (h : GR φ G) : GR φ' G := fun g hg => let ⟨m, hm⟩ := h g hg; ⟨m, hl _ _ hm⟩
theorem ev_rel {φ : Phi} {G : Nat} {fr : Fr} {n : Nat} {a : Act} (hg : GR φ G) (h : FR φ G fr n a) (x : Operand) : VR φ (ev G fr x) (a.eval x) := by
  cases x with
  | tmp t => exact h.val t
  | const v => exact .sc
  | global g =>
    simp only [ev]
    split
    · rename_i hd
      obtain ⟨m, hm⟩ := hg g (of_decide_eq_true hd)
      exact .ptr (o := 0) hm
    · exact .sc
  | func f => exact .sc

/-! ### Operations that look at no memory -/

def calm (P : Program) {α : Type} : Sem α → Option α
  | .pure a => some a
  | .program k => calm P (k P)
  | .mark _ k => calm P k
  | _ => none
theorem calm_run {P : Program} {α : Type} : ∀ (s : Sem α) (a : α), calm P s = some a → ∀ w, s.run P w = .ok a w
  | .pure a, b, h, w => by
    simp only [calm, Option.some.injEq] at h
    subst h
    rfl
  | .program k, b, h, w => by
    simp only [calm] at h
    exact calm_run (k P) b h w
  | .mark _ k, b, h, w => by
    simp only [calm] at h
    exact calm_run k b h w
  | .load .., _, h, _ => by simp [calm] at h
  | .store .., _, h, _ => by simp [calm] at h
  | .new .., _, h, _ => by simp [calm] at h
  | .shape .., _, h, _ => by simp [calm] at h
  | .freeze .., _, h, _ => by simp [calm] at h
  | .frozen .., _, h, _ => by simp [calm] at h
  | .getObj .., _, h, _ => by simp [calm] at h
  | .setObj .., _, h, _ => by simp [calm] at h
  | .choose .., _, h, _ => by simp [calm] at h
  | .sys .., _, h, _ => by simp [calm] at h
  | .halt _, _, h, _ => by simp [calm] at h

/-! ### Load and store -/

def sizeT (P : Program) (t : TypeId) : Option Nat := match P.info? t with | some i => some i.size | none => none
theorem sizeT_run {P : Program} {t : TypeId} {n : Nat} (h : sizeT P t = some n) (w : World) : (sizeOf t).run P w = .ok n w := by
  unfold sizeT at h
  split at h
  · rename_i i hi
    simp only [Option.some.injEq] at h
    subst h
    simp [sizeOf, typeInfo, hi]
  · cases h
theorem sizeT_info {P : Program} {t : TypeId} {n : Nat} (h : sizeT P t = some n) : (P.info? t).map (·.size) = some n := by
  unfold sizeT at h
  split at h
  · rename_i i hi
    simp only [Option.some.injEq] at h
    subst h
    simp [hi]
  · cases h

theorem range_sub {w : World} {b k : Nat} {x : List Value} (h : w.rangeAt b k x) (o n : Nat) : w.rangeAt b (k + o) ((x.drop o).take n) := fun j v hv => by
  by_cases hj : j < n
  · rw [List.getElem?_take_of_lt hj, List.getElem?_drop] at hv
    have := h (o + j) v hv
    rwa [← Nat.add_assoc] at this
  · rw [List.getElem?_take_eq_none (by omega)] at hv
    cases hv

theorem run_loadVar_one {P : Program} {w : World} {b o : Nat} {t : TypeId} {d : TypeDesc} {v : Value} (hu : P.underlying t = some d) (hd : d.isRow = false) (hc : w.cell? ⟨b, o, none⟩ = some v) : (loadVar t ⟨b, o, none⟩).run P w = .ok v w := by
  have hagg : (isAgg t).run P w = .ok false w := by
    unfold isAgg
    rw [Sem.run_bind, run_underlying hu w]
    cases d <;> simp_all
  simp [loadVar, Sem.run_bind, hagg, load, Sem.run, hc]

def eLoad (P : Program) (h : H) (t : TypeId) : EV → Option EV
  | .ptr i o => match h.mem.get i with
    | some (.row cells _) => match P.underlying t with
      | none => none
      | some d => match d.isRow with
        | true => match sizeT P t with
          | some n => match decide (o + n ≤ cells.length) with
            | true => some (.agg ((cells.drop o).take n))
            | false => none
          | none => none
        | false => cells[o]?
    | _ => none
  | _ => none

theorem eLoad_ok {P : Program} {φ : Phi} {h : H} {w : World} {t : TypeId} {e v : EV} {r : Value} (hw : WR φ h w) (hr : VR φ e r) (he : eLoad P h t e = some v) :
    ∃ u, (Instr.loadAt t r).run P w = .ok u w ∧ VR φ v u := by
  unfold eLoad at he
  split at he
  · rename_i i o
    cases hr with
    | ptr hp =>
      rename_i p
      split at he
      · rename_i cells ro hm
        obtain ⟨⟨x, hx, hrg, hone⟩, hlen, _⟩ := hw.ent i _ p hm hp
        split at he
        · cases he
        · rename_i d hu
          split at he
          · rename_i hd
            split at he
            · rename_i n hn
              split at he
              · rename_i hle
                simp only [Option.some.injEq] at he
                subst he
                have hle' := of_decide_eq_true hle
                have hxl := hx.length
                have h2 := run_loadAt_mid w p.b (p.k + o) t ((x.drop o).take n) d (range_sub hrg o n) hu hd (by rw [sizeT_info hn]; simp; omega)
                exact ⟨_, h2, .agg ((hx.drop o).take n)⟩
              · cases he
            · cases he
          · rename_i hd
            obtain ⟨u, hu1, hu2⟩ := hx.get he
            exact ⟨u, by simp only [Instr.loadAt, Instr.sureAddr, Sem.run_bind, Sem.run_pure, Result.andThen_ok, run_loadVar_one hu (by simpa using hd) (hrg o u hu1)], hu2⟩
      · cases he
  · cases he

def eStore (P : Program) (h : H) (t : TypeId) (a x : EV) : Option H := match a with
  | .ptr i o => match h.mem.get i with
    | some (.row cells false) => match sizeT P t with
      | some n => match decide (x.cells.length = n) with
        | true => match ones x.cells with
          | true => match writeAt cells o x.cells with
            | some cs => h.put i (some (.row cs false))
            | none => none
          | false => none
        | false => none
      | none => none
    | _ => none
  | _ => none

theorem eStore_ok {P : Program} {φ : Phi} {h h' : H} {w : World} {t : TypeId} {a x : EV} {ra rx : Value} (hw : WR φ h w) (ha : VR φ a ra) (hx : VR φ x rx) (he : eStore P h t a x = some h') :
    ∃ w', (Instr.storeAt t ra rx).run P w = .ok () w' ∧ Step φ h w φ h' w' := by
  unfold eStore at he
  split at he
  · rename_i i o
    cases ha with
    | ptr hp =>
      rename_i p
      split at he
      · rename_i cells hm
        split at he
        · rename_i n hn
          split at he
          · rename_i hl
            split at he
            · rename_i h1
              split at he
              · rename_i cs hc
                have hcs := hx.cells
                obtain ⟨ht, hs⟩ := Step.put hw hm hp rfl hcs (hcs.ones h1) hc he
                have hl' := of_decide_eq_true hl
                have hll := hcs.length
                have hsz : rx.cells.size = n := by simp at hll; omega
                have hst := run_storeCells_cells (P := P) p.b (p.k + o) rx.cells.toList 0 w (fun j hj => by simpa using (ht j hj).1) (fun j hj => by simpa using (ht j hj).2) (hcs.ones h1)
                simp only [Nat.add_zero] at hst
                refine ⟨_, ?_, hs⟩
                simp [Instr.storeAt, Instr.sureAddr, storeVar, sizeT_run hn, hsz, hst]
              · cases he
            · cases he
          · cases he
        · cases he
      · cases he
  · cases he

/-! ### New variables -/

def eBox (h : H) (x : EV) : Option (EV × H) := match ones x.cells with
  | true => match h.new (.row x.cells false) with
    | some h' => some (.ptr h.next 0, h')
    | none => none
  | false => none
theorem eBox_ok {P : Program} {φ : Phi} {h h' : H} {w : World} {t : TypeId} {x v : EV} {rx : Value} (hw : WR φ h w) (hx : VR φ x rx) (he : eBox h x = some (v, h')) :
    ∃ u φ' w', (Instr.box t rx).run P w = .ok u w' ∧ VR φ' v u ∧ Step φ h w φ' h' w' := by
  unfold eBox at he
  split at he
  · rename_i h1
    split at he
    · rename_i h2 hn
      simp only [Option.some.injEq, Prod.mk.injEq] at he
      obtain ⟨rfl, rfl⟩ := he
      have hcs := hx.cells
      refine ⟨.pointer (some ⟨w.heap.size, 0, none⟩), _, w.alloc (.cells rx.cells t), by simp [Instr.box, newVar, newRow], ?_, Step.alloc (m := rx.cells.size) hw hn fun φ' hl => ER.new_row (hcs.mono hl) (hcs.ones h1) (fun j v hv => by simpa using hv) (by simp)⟩
      exact .ptr (o := 0) (Phi.put_same _ _ _)
    · cases he
  · cases he
def zeroT (P : Program) (t : TypeId) : Option Value := match P.info? t with
  | some i => i.zero
  | none => none
theorem zeroT_run {P : Program} {t : TypeId} {v : Value} (h : zeroT P t = some v) (w : World) : (zeroValue t).run P w = .ok v w := by
  unfold zeroT at h
  split at h
  · rename_i i hi
    simp [zeroValue, typeInfo, hi, h]
  · cases h
def eAlloc (P : Program) (h : H) (t : TypeId) : Option (EV × H) := match zeroT P t with
  | some z => eBox h (.sc z)
  | none => none
theorem eAlloc_ok {P : Program} {φ : Phi} {h h' : H} {w : World} {t : TypeId} {v : EV} (hw : WR φ h w) (he : eAlloc P h t = some (v, h')) :
    ∃ u φ' w', (Instr.alloc t true (.tuple #[])).run P w = .ok u w' ∧ VR φ' v u ∧ Step φ h w φ' h' w' := by
  unfold eAlloc at he
  split at he
  · rename_i z hz
    obtain ⟨u, φ', w', h1, h2, h3⟩ := eBox_ok (P := P) (t := t) hw (VR.sc (v := z)) he
    refine ⟨u, φ', w', ?_, h2, h3⟩
    simp only [Instr.box, Instr.alloc, Sem.run_bind, zeroT_run hz, Result.andThen_ok] at h1 ⊢
    exact h1
  · cases he

/-! ### Addresses -/

def eField (P : Program) (t : TypeId) (k : Nat) : EV → Option EV
  | .ptr i o => match P.underlying t with
    | some (.struct fs) => match fs[k]? with
      | some f => match sizeT P f.type with
        | some (_ + 1) => some (.ptr i (o + f.offset))
        | _ => none
      | none => none
    | _ => none
  | _ => none
theorem add_at (b o n : Nat) : (⟨b, o, none⟩ : Addr).add n = ⟨b, o + n, none⟩ := Addr.add_mid b o n
theorem eField_ok' {P : Program} {φ : Phi} {t : TypeId} {k : Nat} {x v : EV} {rx : Value} (hx : VR φ x rx) (he : eField P t k x = some v) :
    ∃ u, (∀ w, (Instr.fieldAt t rx k).run P w = .ok u w) ∧ VR φ v u := by
  unfold eField at he
  split at he
  · rename_i i o
    cases hx with
    | ptr hp =>
      rename_i p
      split at he
      · rename_i fs hu
        split at he
        · rename_i f hf
          split at he
          · rename_i n hn
            simp only [Option.some.injEq] at he
            subst he
            refine ⟨.pointer (some ⟨p.b, p.k + (o + f.offset), none⟩), fun w => ?_, .ptr hp⟩
            simp [Instr.fieldAt, run_underlying hu, hf, Instr.sureAddr, fieldPlace, sizeT_run hn, add_at, Nat.add_assoc]
          · cases he
        · cases he
      · cases he
  · cases he

theorem eField_ok {P : Program} {φ : Phi} {w : World} {t : TypeId} {k : Nat} {x v : EV} {rx : Value} (hx : VR φ x rx) (he : eField P t k x = some v) :
    ∃ u, (Instr.fieldAt t rx k).run P w = .ok u w ∧ VR φ v u := let ⟨u, h1, h2⟩ := eField_ok' hx he; ⟨u, h1 w, h2⟩

def intE : EV → Option Int
  | .sc (.int _ n) => some n
  | _ => none
theorem intE_rel {φ : Phi} {e : EV} {v : Value} {n : Int} (h : VR φ e v) (hi : intE e = some n) : ∃ k, v = .int k n := by
  unfold intE at hi
  split at hi
  · simp only [Option.some.injEq] at hi
    subst hi
    cases h
    exact ⟨_, rfl⟩
  · cases hi

def eIndexA (P : Program) (t : TypeId) (x ix : EV) : Option EV := match intE ix with
  | none => none
  | some n => match decide (0 ≤ n) with
    | false => none
    | true => match P.underlying t with
      | some (.array len elem) => match x, decide (n < len), sizeT P elem with
        | .ptr i o, true, some z => some (.ptr i (o + n.toNat * z))
        | _, _, _ => none
      | some (.slice elem) => match x with
        | .sl i o len _ _ => match decide (n < len), sizeT P elem with
          | true, some z => some (.ptr i (o + n.toNat * z))
          | _, _ => none
        | _ => none
      | _ => none
theorem eIndexA_ok' {P : Program} {φ : Phi} {t : TypeId} {x ix v : EV} {rx rix : Value} (hx : VR φ x rx) (hix : VR φ ix rix) (he : eIndexA P t x ix = some v) :
    ∃ u, (∀ w, (Instr.indexAt t rx rix).run P w = .ok u w) ∧ VR φ v u := by
  unfold eIndexA at he
  split at he
  · cases he
  · rename_i n hn
    obtain ⟨k, rfl⟩ := intE_rel hix hn
    split at he
    · cases he
    · rename_i h0
      have h0' : 0 ≤ n := of_decide_eq_true h0
      split at he
      · rename_i len elem hu
        split at he
        · rename_i i o z hlt hz
          have hlt' := of_decide_eq_true hlt
          simp only [Option.some.injEq] at he
          subst he
          cases hx with
          | ptr hp =>
            rename_i p
            refine ⟨.pointer (some ⟨p.b, p.k + (o + n.toNat * z), none⟩), fun w => ?_, .ptr hp⟩
            simp [Instr.indexAt, asIntOf, run_underlying hu, Instr.sureAddr, h0', hlt', sizeT_run hz, add_at, Nat.add_assoc]
        · cases he
      · rename_i elem hu
        split at he
        · rename_i i o len c z
          split at he
          · rename_i z' hlt hz
            have hlt' := of_decide_eq_true hlt
            simp only [Option.some.injEq] at he
            subst he
            cases hx with
            | sl hp _ _ _ =>
              rename_i p cap _ _ _
              refine ⟨.pointer (some ⟨p.b, p.k + (o + n.toNat * z'), none⟩), fun w => ?_, .ptr hp⟩
              simp [Instr.indexAt, asIntOf, run_underlying hu, h0', hlt', sizeT_run hz, add_at, Nat.add_assoc]
          · cases he
        · cases he
      · cases he
theorem eIndexA_ok {P : Program} {φ : Phi} {w : World} {t : TypeId} {x ix v : EV} {rx rix : Value} (hx : VR φ x rx) (hix : VR φ ix rix) (he : eIndexA P t x ix = some v) :
    ∃ u, (Instr.indexAt t rx rix).run P w = .ok u w ∧ VR φ v u := let ⟨u, h1, h2⟩ := eIndexA_ok' hx hix he; ⟨u, h1 w, h2⟩
end Go.Proofs.YtjcmbnpabkhcfaaGreatDoor.Eng
