import Derived.Test.YtjcmbnpabkhcfaaGreatDoorEngC
import Derived.Laws.BytesString
namespace Go.Proofs.YtjcmbnpabkhcfaaGreatDoor.Eng
open Go.RowKit
open Go Go.Proofs
set_option linter.unusedVariables false
set_option linter.unusedSimpArgs false

/-! ### Parts of values -/

def eExtract (k : Nat) : EV → Option EV
  | .tup l => l[k]?
  | .sc (.tuple vs) => match vs[k]? with
    | some v => some (.sc v)
    | none => none
  | _ => none
theorem eExtract_ok' {P : Program} {φ : Phi} {k : Nat} {x v : EV} {rx : Value} (hx : VR φ x rx) (he : eExtract k x = some v) :
    ∃ u, (∀ w, (Instr.extract rx k).run P w = .ok u w) ∧ VR φ v u := by
  unfold eExtract at he
  split at he
  · cases hx with
    | tup hl =>
      obtain ⟨u, h1, h2⟩ := hl.get he
      refine ⟨u, fun w => ?_, h2⟩
      simp [Instr.extract, h1]
  · rename_i vs
    split at he
    · rename_i u hu
      simp only [Option.some.injEq] at he
      subst he
      cases hx
      refine ⟨u, fun w => ?_, .sc⟩
      simp [Instr.extract, hu]
    · cases he
  · cases he

theorem eExtract_ok {P : Program} {φ : Phi} {w : World} {k : Nat} {x v : EV} {rx : Value} (hx : VR φ x rx) (he : eExtract k x = some v) :
    ∃ u, (Instr.extract rx k).run P w = .ok u w ∧ VR φ v u := let ⟨u, h1, h2⟩ := eExtract_ok' hx he; ⟨u, h1 w, h2⟩

def EV.list? : EV → Option (List EV)
  | .agg l => some l
  | .sc (.agg a) => some (a.toList.map .sc)
  | _ => none
theorem VR.list {φ : Phi} {e : EV} {r : Value} {l : List EV} (h : VR φ e r) (hl : e.list? = some l) : ∃ x, r = .agg ⟨x⟩ ∧ VRs φ l x := by
  unfold EV.list? at hl
  split at hl
  · simp only [Option.some.injEq] at hl
    subst hl
    cases h with
    | agg a => exact ⟨_, rfl, a⟩
  · simp only [Option.some.injEq] at hl
    subst hl
    cases h
    exact ⟨_, rfl, VRs.scs _⟩
  · cases hl

def ePart (P : Program) (t : TypeId) (l : List EV) (off : Nat) : Option EV := match P.underlying t with
  | none => none
  | some d => match d.isRow with
    | true => match sizeT P t with
      | some n => some (.agg ((l.drop off).take n))
      | none => none
    | false => l[off]?
theorem run_isAgg {P : Program} {t : TypeId} {d : TypeDesc} (hu : P.underlying t = some d) (w : World) : (isAgg t).run P w = .ok d.isRow w := by
  unfold isAgg
  rw [Sem.run_bind, run_underlying hu w]
  cases d <;> simp_all
theorem ePart_ok {P : Program} {φ : Phi} {t : TypeId} {l : List EV} {x : List Value} {off : Nat} {v : EV} (hx : VRs φ l x) (he : ePart P t l off = some v) :
    ∃ u, (∀ w, (part t ⟨x⟩ off).run P w = .ok u w) ∧ VR φ v u := by
  unfold ePart at he
  split at he
  · cases he
  · rename_i d hu
    split at he
    · rename_i hd
      split at he
      · rename_i n hn
        simp only [Option.some.injEq] at he
        subst he
        refine ⟨.agg ⟨(x.drop off).take n⟩, fun w => ?_, .agg ((hx.drop off).take n)⟩
        have e : (⟨x⟩ : Array Value).extract off (off + n) = ⟨(x.drop off).take n⟩ := by
          apply Array.ext'
          simp
        simp only [part, Sem.run_bind, run_isAgg hu, hd, Result.andThen_ok, if_true, sizeT_run hn, Sem.run_pure, e]
      · cases he
    · rename_i hd
      obtain ⟨u, h1, h2⟩ := hx.get he
      refine ⟨u, fun w => ?_, h2⟩
      simp [part, Sem.run_bind, run_isAgg hu, hd, h1]

def eFieldV (P : Program) (t : TypeId) (k : Nat) (x : EV) : Option EV := match P.underlying t with
  | some (.struct fs) => match fs[k]?, x.list? with
    | some f, some l => ePart P f.type l f.offset
    | _, _ => none
  | _ => none
theorem eFieldV_ok' {P : Program} {φ : Phi} {t : TypeId} {k : Nat} {x v : EV} {rx : Value} (hx : VR φ x rx) (he : eFieldV P t k x = some v) :
    ∃ u, (∀ w, (Instr.field t rx k).run P w = .ok u w) ∧ VR φ v u := by
  unfold eFieldV at he
  split at he
  · rename_i fs hu
    split at he
    · rename_i f l hf hl
      obtain ⟨xs, rfl, hxs⟩ := hx.list hl
      obtain ⟨u, h1, h2⟩ := ePart_ok hxs he
      refine ⟨u, fun w => ?_, h2⟩
      simp [Instr.field, run_underlying hu, hf, asAgg, h1]
    · cases he
  · cases he

theorem eFieldV_ok {P : Program} {φ : Phi} {w : World} {t : TypeId} {k : Nat} {x v : EV} {rx : Value} (hx : VR φ x rx) (he : eFieldV P t k x = some v) :
    ∃ u, (Instr.field t rx k).run P w = .ok u w ∧ VR φ v u := let ⟨u, h1, h2⟩ := eFieldV_ok' hx he; ⟨u, h1 w, h2⟩

def eIndexV (P : Program) (t : TypeId) (x ix : EV) : Option EV := match P.underlying t with
  | some (.array len elem) => match intE ix, x.list?, sizeT P elem with
    | some n, some l, some z => match decide (0 ≤ n), decide (n < len) with
      | true, true => ePart P elem l (n.toNat * z)
      | _, _ => none
    | _, _, _ => none
  | _ => none
theorem eIndexV_ok' {P : Program} {φ : Phi} {t : TypeId} {x ix v : EV} {rx rix : Value} (hx : VR φ x rx) (hix : VR φ ix rix) (he : eIndexV P t x ix = some v) :
    ∃ u, (∀ w, (Instr.index t rx rix).run P w = .ok u w) ∧ VR φ v u := by
  unfold eIndexV at he
  split at he
  · rename_i len elem hu
    split at he
    · rename_i n l z hn hl hz
      split at he
      · rename_i h0 h1
        have h0 := of_decide_eq_true h0
        have h1 := of_decide_eq_true h1
        obtain ⟨k, rfl⟩ := intE_rel hix hn
        obtain ⟨xs, rfl, hxs⟩ := hx.list hl
        obtain ⟨u, h2, h3⟩ := ePart_ok hxs he
        refine ⟨u, fun w => ?_, h3⟩
        simp [Instr.index, run_underlying hu, asIntOf, h0, h1, sizeT_run hz, h2]
      · cases he
    · cases he
  · cases he

theorem eIndexV_ok {P : Program} {φ : Phi} {w : World} {t : TypeId} {x ix v : EV} {rx rix : Value} (hx : VR φ x rx) (hix : VR φ ix rix) (he : eIndexV P t x ix = some v) :
    ∃ u, (Instr.index t rx rix).run P w = .ok u w ∧ VR φ v u := let ⟨u, h1, h2⟩ := eIndexV_ok' hx hix he; ⟨u, h1 w, h2⟩

/-! ### Making values of parts -/

theorem fold_get : ∀ (vs : List Value) (C : Array Value) (off j : Nat), off + j + vs.length ≤ C.size →
    ((vs.zipIdx j).foldl (fun (c : Array Value) (p : Value × Nat) => c.setIfInBounds (off + p.2) p.1) C).size = C.size ∧
    ∀ i : Nat, ((vs.zipIdx j).foldl (fun (c : Array Value) (p : Value × Nat) => c.setIfInBounds (off + p.2) p.1) C)[i]? = if off + j ≤ i ∧ i < off + j + vs.length then vs[i - (off + j)]? else C[i]?
  | [], C, off, j, _ => by
    refine ⟨rfl, fun i => ?_⟩
    rw [if_neg (by simp)]
    rfl
  | v :: vs, C, off, j, h => by
    simp only [List.zipIdx_cons, List.foldl_cons]
    obtain ⟨h1, h2⟩ := fold_get vs (C.setIfInBounds (off + j) v) off (j + 1) (by simp at h ⊢; omega)
    refine ⟨by rw [h1]; simp, fun i => ?_⟩
    rw [h2]
    have hlt : off + j < C.size := by simp at h; omega
    by_cases h3 : off + (j + 1) ≤ i ∧ i < off + (j + 1) + vs.length
    · rw [if_pos h3, if_pos (by simp; omega), show i - (off + j) = (i - (off + (j + 1))) + 1 by omega]
      rfl
    · rw [if_neg h3]
      by_cases h4 : i = off + j
      · subst h4
        rw [if_pos (by simp), Array.getElem?_setIfInBounds_self_of_lt hlt]
        simp
      · rw [if_neg (by simp; omega), Array.getElem?_setIfInBounds_ne (by omega)]
theorem splice_get {x vs : List Value} {o : Nat} (h : o + vs.length ≤ x.length) (i : Nat) :
    (x.take o ++ vs ++ x.drop (o + vs.length))[i]? = if o ≤ i ∧ i < o + vs.length then vs[i - o]? else x[i]? := by
  by_cases h1 : i < o
  · rw [if_neg (by omega), List.append_assoc, List.getElem?_append_left (by simp; omega), List.getElem?_take_of_lt h1]
  · by_cases h2 : i < o + vs.length
    · rw [if_pos (by omega), List.append_assoc, List.getElem?_append_right (by simp; omega), List.getElem?_append_left (by simp; omega)]
      congr 1
      simp
      omega
    · rw [if_neg (by omega), List.getElem?_append_right (by simp; omega), List.getElem?_drop]
      congr 1
      simp
      omega

def fillE (place : Nat → Option (Nat × Nat)) (cells : List EV) : List (Nat × EV) → Option (List EV)
  | [] => some cells
  | (i, v) :: rest => match place i with
    | none => none
    | some (off, size) => match decide (v.cells.length = size) with
      | true => match writeAt cells off v.cells with
        | some cs => fillE place cs rest
        | none => none
      | false => none
inductive PRs (φ : Phi) : List (Nat × EV) → List (Nat × Value) → Prop where
  | nil : PRs φ [] []
  | cons {i e v l x} : VR φ e v → PRs φ l x → PRs φ ((i, e) :: l) ((i, v) :: x)
theorem fillE_ok {φ : Phi} {place : Nat → Option (Nat × Nat)} : ∀ {ps : List (Nat × EV)} {qs : List (Nat × Value)} {cells : List EV} {C : Array Value} {r : List EV}, VRs φ cells C.toList → PRs φ ps qs → fillE place cells ps = some r →
    ∃ C', Instr.fill place C qs = some C' ∧ VRs φ r C'.toList
  | [], _, _, _, _, hc, .nil, h => by
    simp only [fillE, Option.some.injEq] at h
    subst h
    exact ⟨_, rfl, hc⟩
  | (i, e) :: ps, _, cells, C, r, hc, .cons (v := v) hv hp, h => by
    unfold fillE at h
    split at h
    · cases h
    · rename_i off size hpl
      split at h
      · rename_i hs
        split at h
        · rename_i cs hw
          have hs' := of_decide_eq_true hs
          have hvc := hv.cells
          have hvl := hvc.length
          simp only [Array.length_toList] at hvl
          obtain ⟨h1, h2⟩ := writeAt_rel hc hvc hw
          simp only [Array.length_toList] at h1
          have hf := fold_get v.cells.toList C off 0 (by simpa using h1)
          have he : ((v.cells.toList.zipIdx 0).foldl (fun (c : Array Value) (p : Value × Nat) => c.setIfInBounds (off + p.2) p.1) C).toList = C.toList.take off ++ v.cells.toList ++ C.toList.drop (off + v.cells.toList.length) := by
            apply List.ext_getElem?
            intro k
            rw [Array.getElem?_toList, hf.2, splice_get (by simpa using h1)]
            simp only [Nat.add_zero, Array.getElem?_toList]
          rw [← he] at h2
          obtain ⟨C', h3, h4⟩ := fillE_ok h2 hp h
          refine ⟨C', ?_, h4⟩
          rw [Instr.fill, hpl]
          simp only
          rw [if_neg (by simp; omega)]
          have e2 : v.cells.zipIdx.foldl (fun (cs : Array Value) (x : Value × Nat) => match x with | (c, j) => cs.setIfInBounds (off + j) c) C = ((v.cells.toList.zipIdx 0).foldl (fun (c : Array Value) (p : Value × Nat) => c.setIfInBounds (off + p.2) p.1) C) := by
            rw [← Array.foldl_toList]
            simp
          exact e2 ▸ h3
        · cases h
      · cases h

theorem PRs.of {φ : Phi} {f : Operand → EV} {g : Operand → Value} (hfg : ∀ x, VR φ (f x) (g x)) : ∀ l : List (Nat × Operand), PRs φ (l.map fun p => (p.1, f p.2)) (l.map fun p => (p.1, g p.2))
  | [] => .nil
  | (_, x) :: l => .cons (hfg x) (PRs.of hfg l)

def eBuild (P : Program) (t : TypeId) (ps : List (Nat × EV)) : Option EV := match zeroT P t with
  | some z => match P.underlying t with
    | some (.struct fs) => match calm P (fs.mapM fun f => (do pure (f.offset, ← sizeOf f.type) : Sem (Nat × Nat))) with
      | some places => match fillE (places[·]?) (z.cells.toList.map .sc) ps with
        | some cs => some (.agg cs)
        | none => none
      | none => none
    | some (.array _ elem) => match sizeT P elem with
      | some n => match fillE (fun i => some (i * n, n)) (z.cells.toList.map .sc) ps with
        | some cs => some (.agg cs)
        | none => none
      | none => none
    | _ => none
  | none => none
theorem eBuild_ok {P : Program} {φ : Phi} {w : World} {t : TypeId} {ps : List (Nat × EV)} {qs : Array (Nat × Value)} {v : EV} (hp : PRs φ ps qs.toList) (he : eBuild P t ps = some v) :
    ∃ u, (Instr.build t qs).run P w = .ok u w ∧ VR φ v u := by
  unfold eBuild at he
  split at he
  · rename_i z hz
    split at he
    · rename_i fs hu
      split at he
      · rename_i places hpl
        split at he
        · rename_i cs hc
          simp only [Option.some.injEq] at he
          subst he
          obtain ⟨C', h1, h2⟩ := fillE_ok (VRs.scs z.cells.toList) hp hc
          refine ⟨.agg C', ?_, .agg h2⟩
          have h3 := calm_run _ _ hpl w
          simp only [Instr.build, Sem.run_bind, zeroT_run hz, Result.andThen_ok, run_underlying hu, h3, h1, Sem.run_pure]
        · cases he
      · cases he
    · rename_i k elem hu
      split at he
      · rename_i n hn
        split at he
        · rename_i cs hc
          simp only [Option.some.injEq] at he
          subst he
          obtain ⟨C', h1, h2⟩ := fillE_ok (VRs.scs z.cells.toList) hp hc
          refine ⟨.agg C', ?_, .agg h2⟩
          simp only [Instr.build, Sem.run_bind, zeroT_run hz, Result.andThen_ok, run_underlying hu, sizeT_run hn, h1, Sem.run_pure]
        · cases he
      · cases he
    · cases he
  · cases he

def rep {α : Type} (l : List α) : Nat → List α
  | 0 => []
  | n + 1 => l ++ rep l n
theorem rep_length {α : Type} (l : List α) : ∀ n, (rep l n).length = n * l.length
  | 0 => by simp [rep]
  | n + 1 => by simp [rep, rep_length l n, Nat.succ_mul, Nat.add_comm]
theorem rep_get {α : Type} [Inhabited α] (l : Array α) : ∀ n i, i < n * l.size → (rep l.toList n)[i]? = some (l[i % l.size]!)
  | 0, i, h => by simp at h
  | n + 1, i, h => by
    have hp : 0 < l.size := by
      rcases Nat.eq_zero_or_pos l.size with h0 | h0
      · rw [h0] at h; simp at h
      · exact h0
    rw [rep]
    by_cases hi : i < l.size
    · rw [List.getElem?_append_left (by simpa using hi), Nat.mod_eq_of_lt hi]
      simp [hi]
    · rw [List.getElem?_append_right (by simpa using hi), Array.length_toList, rep_get l n (i - l.size) (by rw [Nat.succ_mul] at h; omega)]
      congr 2
      exact (Nat.mod_eq_sub_mod (by omega)).symm
theorem rep_cells {α : Type} [Inhabited α] (l : Array α) (n m : Nat) (hm : m = n * l.size) : (Array.range m).map (fun i => l[i % l.size]!) = ⟨rep l.toList n⟩ := by
  apply Array.ext'
  apply List.ext_getElem?
  intro i
  by_cases hi : i < m
  · rw [rep_get l n i (by omega)]
    simp [hi]
  · rw [List.getElem?_eq_none (by simp; omega), List.getElem?_eq_none (by rw [rep_length]; simp; omega)]
theorem VRs.rep {φ : Phi} {l : List EV} {x : List Value} (h : VRs φ l x) : ∀ n, VRs φ (Eng.rep l n) (Eng.rep x n)
  | 0 => .nil
  | n + 1 => h.append (VRs.rep h n)

/-- The cells of so many zeros. -/
theorem no_zeros {z : Value} {n k : Nat} (hn : z.cells.size = n) (h0 : k * n = 0) : (Array.range (k * n)).map (fun i => (#[] : Array Value)[i % (#[] : Array Value).size]!) = ⟨Eng.rep z.cells.toList k⟩ := by
  have : Eng.rep z.cells.toList k = [] := by
    apply List.eq_nil_of_length_eq_zero
    rw [rep_length]
    simp [hn, h0]
  rw [this, h0]
  apply Array.ext'
  simp

def eBuildSlice (P : Program) (h : H) (t : TypeId) (len : Nat) (ps : List (Nat × EV)) : Option (EV × H) := match P.underlying t with
  | some (.slice elem) => match zeroT P elem, sizeT P elem with
    | some z, some n => match decide (z.cells.size = n), decide (len * n ≤ 16777216) with
      | true, true => match fillE (fun i => some (i * n, n)) (rep (z.cells.toList.map .sc) len) ps with
        | some cs => match ones cs, decide (cs.length = len * n) with
          | true, true => match h.new (.row cs false) with
            | some h' => some (.sl h.next 0 len (some len) n, h')
            | none => none
          | _, _ => none
        | none => none
      | _, _ => none
    | _, _ => none
  | _ => none
theorem eBuildSlice_ok {P : Program} {φ : Phi} {h h' : H} {w : World} {t : TypeId} {len : Nat} {ps : List (Nat × EV)} {qs : Array (Nat × Value)} {v : EV} (hw : WR φ h w) (hp : PRs φ ps qs.toList) (he : eBuildSlice P h t len ps = some (v, h')) :
    ∃ u φ' w', (Instr.buildSlice t len qs).run P w = .ok u w' ∧ VR φ' v u ∧ Step φ h w φ' h' w' := by
  unfold eBuildSlice at he
  split at he
  · rename_i elem hu
    split at he
    · rename_i z n hz hn
      split at he
      · rename_i hzn h24
        have hzn := of_decide_eq_true hzn
        have h24 := of_decide_eq_true h24
        split at he
        · rename_i cs hc
          split at he
          · rename_i h1 hl
            have hl := of_decide_eq_true hl
            split at he
            · rename_i h2 hnew
              simp only [Option.some.injEq, Prod.mk.injEq] at he
              obtain ⟨rfl, rfl⟩ := he
              obtain ⟨C', h3, h4⟩ := fillE_ok (C := ⟨rep z.cells.toList len⟩) ((VRs.scs z.cells.toList).rep len) hp hc
              have hC := h4.length
              simp only [Array.length_toList] at hC
              refine ⟨.slice (some ⟨w.heap.size, 0, none⟩) len len, _, w.alloc (.cells C' elem), ?_, .sl (o := 0) (Phi.put_same _ _ _) (fun d hd => (Option.some.inj hd).symm) (Nat.le_refl _) ?_, Step.alloc (m := C'.size) hw hnew fun φ' hle => ER.new_row (h4.mono hle) (h4.ones h1) (fun j v hv => by simpa using hv) (by simp)⟩
              · simp only [Instr.buildSlice, Sem.run_bind, run_underlying hu, Result.andThen_ok, sizeT_run hn]
                rw [if_neg (by omega)]
                by_cases h0 : len * n = 0
                · rw [if_pos h0]
                  simp only [Sem.run_bind, Sem.run_pure, Result.andThen_ok, no_zeros hzn h0, h3]
                  simp [newRow]
                · rw [if_neg h0]
                  simp only [Sem.run_bind, Sem.run_pure, Result.andThen_ok, zeroT_run hz, rep_cells z.cells len (len * n) (by rw [hzn]), h3]
                  simp [newRow]
              · simp only; omega
            · cases he
          · cases he
        · cases he
      · cases he
    · cases he
  · cases he
end Go.Proofs.YtjcmbnpabkhcfaaGreatDoor.Eng
