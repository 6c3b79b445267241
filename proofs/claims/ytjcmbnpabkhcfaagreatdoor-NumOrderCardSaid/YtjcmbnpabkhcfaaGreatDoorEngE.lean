import Derived.Test.YtjcmbnpabkhcfaaGreatDoorEngD
import Derived.IntWalk
namespace Go.Proofs.YtjcmbnpabkhcfaaGreatDoor.Eng
open Go.RowKit
open Go Go.Proofs
set_option linter.unusedVariables false
set_option linter.unusedSimpArgs false

def eMakeSlice (P : Program) (h : H) (t : TypeId) (l c : EV) : Option (EV × H) := match P.underlying t with
  | some (.slice elem) => match zeroT P elem, P.info? elem, intE l, intE c with
    | some z, some i, some n, some m => match decide (0 ≤ n), decide (n ≤ m), decide (m < 1000000), decide (z.cells.size = i.size), decide (i.bytes < 1000000), ones (z.cells.toList.map .sc) with
      | true, true, true, true, true, true => match h.new (.row (rep (z.cells.toList.map .sc) m.toNat) false) with
        | some h' => some (.sl h.next 0 n.toNat (some m.toNat) i.size, h')
        | none => none
      | _, _, _, _, _, _ => none
    | _, _, _, _ => none
  | _ => none
theorem ones_rep {l : List EV} (h : ones l = true) : ∀ n, ones (rep l n) = true := by
  have app : ∀ a b : List EV, ones a = true → ones b = true → ones (a ++ b) = true := by
    intro a
    induction a with
    | nil => intro b _ hb; exact hb
    | cons x a ih =>
      intro b ha hb
      simp only [ones, List.cons_append] at ha ⊢
      split at ha
      · exact ih b ha hb
      · cases ha
  intro n
  induction n with
  | zero => rfl
  | succ n ih => exact app _ _ h ih
theorem wrap_small {n : Int} (h0 : 0 ≤ n) (h1 : n < 1000000) : IntKind.i64.wrap n = n := IntWalk.i64_in (by omega) (by omega)
theorem eMakeSlice_ok {P : Program} {φ : Phi} {h h' : H} {w : World} {t : TypeId} {l c v : EV} {rl rc : Value} (hw : WR φ h w) (hl : VR φ l rl) (hc : VR φ c rc) (he : eMakeSlice P h t l c = some (v, h')) :
    ∃ u φ' w', (Instr.makeSlice t rl rc).run P w = .ok u w' ∧ VR φ' v u ∧ Step φ h w φ' h' w' := by
  unfold eMakeSlice at he
  split at he
  · rename_i elem hu
    split at he
    · rename_i z i n m hz hi hn hm
      split at he
      · rename_i h0 h1 h2 h3 h4 h5
        have h0 := of_decide_eq_true h0
        have h1 := of_decide_eq_true h1
        have h2 := of_decide_eq_true h2
        have h3 := of_decide_eq_true h3
        have h4 := of_decide_eq_true h4
        split at he
        · rename_i h6 hnew
          simp only [Option.some.injEq, Prod.mk.injEq] at he
          obtain ⟨rfl, rfl⟩ := he
          obtain ⟨k1, rfl⟩ := intE_rel hl hn
          obtain ⟨k2, rfl⟩ := intE_rel hc hm
          have hwn := wrap_small (n := n) h0 (by omega)
          have hwm := wrap_small (n := m) (by omega) h2
          have hb : (i.bytes : Int) * m ≤ 1000000 * 1000000 := Int.mul_le_mul (by omega) (by omega) (by omega) (by omega)
          have hsz : (⟨rep z.cells.toList m.toNat⟩ : Array Value).size = m.toNat * i.size := by
            show (rep z.cells.toList m.toNat).length = _
            rw [rep_length]
            simp [h3]
          have hR : ∀ φ' : Phi, VRs φ' (rep (z.cells.toList.map .sc) m.toNat) (rep z.cells.toList m.toNat) := fun φ' => (VRs.scs _).rep _
          refine ⟨.slice (some ⟨w.heap.size, 0, none⟩) n.toNat m.toNat, _, w.alloc (.cells ⟨rep z.cells.toList m.toNat⟩ elem), ?_, .sl (o := 0) (Phi.put_same _ _ _) (fun d hd => (Option.some.inj hd).symm) (by omega) (by simp only [Nat.zero_add]; exact Nat.le_of_eq hsz.symm),
            Step.alloc (m := (⟨rep z.cells.toList m.toNat⟩ : Array Value).size) hw hnew fun φ' hle => ER.new_row (hR φ') ((hR φ').ones (ones_rep h5 _)) (fun j v hv => by simpa using hv) (by simp)⟩
          have hq1 : ¬ (m < 0) := by omega
          have hq2 : ¬ ((i.bytes : Int) * m > 2 ^ 48) := by omega
          have hq3 : ¬ (n < 0) := by omega
          have hq4 : ¬ (n > m) := by omega
          have hask : ∀ k, (askRoom k).run P w = .ok () w := fun k => by
            unfold askRoom
            split <;> rfl
          have hinfo : (typeInfo elem).run P w = .ok i w := by simp [typeInfo, hi]
          have hsize : (sizeOf elem).run P w = .ok i.size w := by simp [sizeOf, typeInfo, hi]
          simp only [Instr.makeSlice, Sem.run_bind, run_underlying hu, Result.andThen_ok, asInt, asIntOf, Sem.run_pure, hinfo, hwn, hwm]
          rw [if_neg (by simp; omega)]
          simp only [Sem.run_bind, Sem.run_pure, Result.andThen_ok, hask, hsize]
          by_cases hk : m.toNat * i.size = 0
          · rw [if_pos hk]
            simp only [Sem.run_bind, Sem.run_pure, Result.andThen_ok, no_zeros h3 hk]
            simp [newRow]
          · rw [if_neg hk]
            simp only [Sem.run_bind, Sem.run_pure, Result.andThen_ok, zeroT_run hz, rep_cells z.cells m.toNat (m.toNat * i.size) (by rw [h3])]
            simp [newRow]
        · cases he
      · cases he
    · cases he
  · cases he

/-! ### Slices of slices -/

def valsO (f : Operand → Option Value) : Option Operand → Option (Option Value)
  | none => some none
  | some x => match f x with
    | some v => some (some v)
    | none => none

/-- The cells of what is appended or copied: so many elements. -/
def srcCells (h : H) (z : Nat) : EV → Option (Nat × List EV)
  | .sl i o n _ z' => match decide (z' = z) with
    | true => match h.mem.get i with
      | some (.row cells _) => match decide (o + n * z ≤ cells.length) with
        | true => some (n, (cells.drop o).take (n * z))
        | false => none
      | _ => none
    | false => none
  | .sc (.slice none 0 _) => some (0, [])
  | .sc (.string s) => match decide (z = 1) with
    | true => some (s.size, s.data.toList.map fun b => .sc (.int .u8 b.toNat))
    | false => none
  | _ => none

def sliceOk (P : Program) (t : TypeId) : Bool := match P.underlying t with
  | some (.slice _) => true
  | some .string => true
  | _ => false

theorem srcCells_ok {P : Program} {φ : Phi} {h : H} {w : World} {z n : Nat} {x : EV} {r : Value} {xs : List EV} {tx : TypeId} (hw : WR φ h w) (hr : VR φ x r) (ht : sliceOk P tx = true) (he : srcCells h z x = some (n, xs)) :
    ∃ ys, VRs φ xs ys ∧ (∀ v ∈ ys, v.oneCell' = true) ∧ Src P z tx r n ys w := by
  have hk : (∃ e', P.underlying tx = some (.slice e')) ∨ P.underlying tx = some .string := by
    unfold sliceOk at ht
    split at ht
    · rename_i e h; exact .inl ⟨e, h⟩
    · rename_i h; exact .inr h
    · cases ht
  unfold srcCells at he
  split at he
  · rename_i i o n' c z'
    split at he
    · rename_i hz
      have hz := of_decide_eq_true hz
      subst hz
      split at he
      · rename_i cells ro hm
        split at he
        · rename_i hl
          have hl := of_decide_eq_true hl
          simp only [Option.some.injEq, Prod.mk.injEq] at he
          obtain ⟨rfl, rfl⟩ := he
          cases hr with
          | sl hp hcap hn hroom =>
            rename_i p cap
            obtain ⟨⟨y, hy, hrg, hone⟩, _, _⟩ := hw.ent i _ p hm hp
            have hyl := hy.length
            have hone' : ∀ v ∈ (y.drop o).take (n' * z'), v.oneCell' = true := fun v hv => hone v (List.mem_of_mem_drop (List.mem_of_mem_take hv))
            have hcells : ∀ j u, ((y.drop o).take (n' * z'))[j]? = some u → w.cell? ((⟨p.b, p.k + o, none⟩ : Addr).add j) = some u := fun j u hu => by
              rw [add_at]
              exact range_sub hrg o (n' * z') j u hu
            have hlen : ((y.drop o).take (n' * z')).length = n' * z' := by simp; omega
            exact ⟨_, (hy.drop o).take (n' * z'), hone', ⟨hk, fun _ => rfl, run_firstCells_some w z' n' _ n' cap _ hlen hcells, run_firstCells_some w.drew z' n' _ n' cap _ hlen (by simpa using hcells), hlen, hone'⟩⟩
        · cases he
      · cases he
    · cases he
  · rename_i c
    simp only [Option.some.injEq, Prod.mk.injEq] at he
    obtain ⟨rfl, rfl⟩ := he
    cases hr
    exact ⟨[], .nil, (fun _ h => by cases h), ⟨hk, fun _ => rfl, run_firstCells_none w z 0 0 c, run_firstCells_none w.drew z 0 0 c, by simp, fun _ h => by cases h⟩⟩
  · rename_i s
    split at he
    · rename_i hz
      have hz := of_decide_eq_true hz
      subst hz
      simp only [Option.some.injEq, Prod.mk.injEq] at he
      obtain ⟨rfl, rfl⟩ := he
      cases hr
      have hb : VRs φ (s.data.toList.map fun b => EV.sc (.int .u8 b.toNat)) (byteCells s) := by
        have := VRs.scs (φ := φ) (byteCells s)
        rw [byteCells, List.map_map] at this
        exact this
      have hone : ∀ u ∈ byteCells s, u.oneCell' = true := fun u hu => by
        obtain ⟨_, _, rfl⟩ := List.mem_map.1 hu
        rfl
      exact ⟨byteCells s, hb, hone, ⟨hk, fun _ => rfl, firstCells_string s w, firstCells_string s w.drew, by rw [byteCells_length, Nat.mul_one], hone⟩⟩
    · cases he
  · cases he
end Go.Proofs.YtjcmbnpabkhcfaaGreatDoor.Eng
