import Derived.Test.YtjcmbnpabkhcfaaGreatDoorEngF
import Derived.Laws.Slices
namespace Go.Proofs.YtjcmbnpabkhcfaaGreatDoor.Eng
open Go.RowKit
open Go Go.Proofs
set_option linter.unusedVariables false
set_option linter.unusedSimpArgs false

/-! ### Slicing -/

inductive OR (φ : Phi) : Option EV → Option Value → Prop where
  | no : OR φ none none
  | yes {e v} : VR φ e v → OR φ (some e) (some v)
theorem OR.of {φ : Phi} {f : Operand → EV} {g : Operand → Value} (hfg : ∀ x, VR φ (f x) (g x)) : ∀ o : Option Operand, OR φ (o.map f) (o.map g)
  | none => .no
  | some x => .yes (hfg x)
def orInt (d : Int) : Option EV → Option Int
  | none => some d
  | some e => intE e
theorem orInt_rel {φ : Phi} {d n : Int} {o : Option EV} {r : Option Value} (h : OR φ o r) (he : orInt d o = some n) : (r = none ∧ n = d) ∨ ∃ k, r = some (.int k n) := by
  cases h with
  | no =>
    simp only [orInt, Option.some.injEq] at he
    exact .inl ⟨rfl, he.symm⟩
  | yes hv =>
    obtain ⟨k, rfl⟩ := intE_rel hv he
    exact .inr ⟨k, rfl⟩
theorem bounds_run {P : Program} {isSlice : Bool} {len cap : Nat} {rlo rhi : Option Value} {l u : Int} (hl : (rlo = none ∧ l = 0) ∨ ∃ k, rlo = some (.int k l)) (hu : (rhi = none ∧ u = len) ∨ ∃ k, rhi = some (.int k u))
    (h0 : 0 ≤ l) (h1 : l ≤ u) (h2 : u ≤ cap) (w : World) : (Instr.sliceBounds isSlice len cap rlo rhi none).run P w = .ok (l.toNat, u.toNat, cap) w := by
  have hlu : l ≤ ((u.toNat : Nat) : Int) := by omega
  rcases hl with ⟨rfl, rfl⟩ | ⟨k, rfl⟩ <;> rcases hu with ⟨rfl, rfl⟩ | ⟨k', rfl⟩
  · simp [Instr.sliceBounds]
  · simp [Instr.sliceBounds, run_sliceBound _ _ _ _ _ (show 0 ≤ u by omega) h2]
  · simp [Instr.sliceBounds, run_sliceBound _ _ _ _ _ h0 h1]
  · simp [Instr.sliceBounds, run_sliceBound _ _ _ _ _ (show 0 ≤ u by omega) h2, run_sliceBound _ _ _ _ _ h0 hlu]

def eSlice (P : Program) (h : H) (t : TypeId) (x : EV) (lo hi : Option EV) : Option EV := match x with
  | .sl i o n c z => match P.underlying t with
    | some (.slice elem) => match sizeT P elem, orInt 0 lo, orInt n hi with
      | some z', some l, some u => match decide (z' = z), decide (0 ≤ l), decide (l ≤ u) with
        | true, true, true => match c with
          | some c => match decide (u ≤ c) with
            | true => match decide (c = l.toNat) with
              | true => some (.sl i o (u.toNat - l.toNat) (some (c - l.toNat)) z)
              | false => some (.sl i (o + l.toNat * z) (u.toNat - l.toNat) (some (c - l.toNat)) z)
            | false => none
          | none => match decide (u ≤ n) with
            | true => match decide (l < n) with
              | true => some (.sl i (o + l.toNat * z) (u.toNat - l.toNat) none z)
              | false => match decide (l = 0) with
                | true => some (.sl i o (u.toNat - l.toNat) none z)
                | false => none
            | false => none
        | _, _, _ => none
      | _, _, _ => none
    | _ => none
  | .ptr i o => match P.underlying t with
    | some (.array n elem) => match sizeT P elem, orInt 0 lo, orInt n hi, h.mem.get i with
      | some z, some l, some u, some (.row cells _) => match decide (o + n * z ≤ cells.length), decide (0 ≤ l), decide (l ≤ u), decide (u ≤ n) with
        | true, true, true, true => match decide (n = l.toNat) with
          | true => some (.sl i o (u.toNat - l.toNat) (some (n - l.toNat)) z)
          | false => some (.sl i (o + l.toNat * z) (u.toNat - l.toNat) (some (n - l.toNat)) z)
        | _, _, _, _ => none
      | _, _, _, _ => none
    | _ => none
  | _ => none

theorem mul_room {l m cap z o pm : Nat} (h : o + cap * z ≤ pm) (hl : l + m ≤ cap) : o + l * z + m * z ≤ pm := by
  have := Nat.mul_le_mul_right z hl
  rw [Nat.add_mul] at this
  omega

theorem eSlice_ok {P : Program} {φ : Phi} {h : H} {w : World} {t : TypeId} {x v : EV} {rx : Value} {lo hi : Option EV} {rlo rhi : Option Value} (hw : WR φ h w) (hx : VR φ x rx) (hlo : OR φ lo rlo) (hhi : OR φ hi rhi)
    (he : eSlice P h t x lo hi = some v) : ∃ u, (Instr.sliceAt t rx rlo rhi none).run P w = .ok u w ∧ VR φ v u := by
  unfold eSlice at he
  split at he
  · rename_i i o n c z
    obtain ⟨p, cap, rfl, hp, hcap, hn, hroom⟩ := sl_inv hx
    split at he
    · rename_i elem hu
      split at he
      · rename_i z' l u hz hl hu2
        split at he
        · rename_i hzz h0 h1
          have hzz := of_decide_eq_true hzz
          have h0 := of_decide_eq_true h0
          have h1 := of_decide_eq_true h1
          subst hzz
          have hlo' := orInt_rel hlo hl
          have hhi' := orInt_rel hhi hu2
          have run : u ≤ (cap : Int) → (Instr.sliceAt t (.slice (some ⟨p.b, p.k + o, none⟩) n cap) rlo rhi none).run P w = .ok (.slice (if cap = l.toNat then some ⟨p.b, p.k + o, none⟩ else some ⟨p.b, p.k + o + l.toNat * z', none⟩) (u.toNat - l.toNat) (cap - l.toNat)) w := fun h2 => by
            have hb := bounds_run (P := P) (isSlice := true) hlo' hhi' h0 h1 h2 w
            simp [Instr.sliceAt, Instr.slice, run_underlying hu, hb, sizeT_run hz, add_at]
          split at he
          · rename_i c
            obtain rfl := hcap c rfl
            split at he
            · rename_i h2
              have h2 := of_decide_eq_true h2
              have hr := run h2
              split at he
              · rename_i h3
                have h3 := of_decide_eq_true h3
                simp only [Option.some.injEq] at he
                subst he
                rw [if_pos h3] at hr
                exact ⟨_, hr, .sl hp (fun d hd => (Option.some.inj hd).symm) (by omega) (by rw [h3]; simp; omega)⟩
              · rename_i h3
                have h3 := of_decide_eq_false h3
                simp only [Option.some.injEq] at he
                subst he
                rw [if_neg h3] at hr
                refine ⟨_, hr, ?_⟩
                rw [Nat.add_assoc]
                exact .sl hp (fun d hd => (Option.some.inj hd).symm) (by omega) (mul_room hroom (by omega))
            · cases he
          · split at he
            · rename_i h2
              have h2 := of_decide_eq_true h2
              have hr := run (by omega)
              split at he
              · rename_i h3
                have h3 := of_decide_eq_true h3
                simp only [Option.some.injEq] at he
                subst he
                rw [if_neg (by omega)] at hr
                refine ⟨_, hr, ?_⟩
                rw [Nat.add_assoc]
                exact .sl hp (fun d hd => by cases hd) (by omega) (mul_room hroom (by omega))
              · split at he
                · rename_i h3
                  have h3 := of_decide_eq_true h3
                  simp only [Option.some.injEq] at he
                  subst he
                  subst h3
                  refine ⟨_, hr, ?_⟩
                  have e : (if cap = (0 : Int).toNat then some (⟨p.b, p.k + o, none⟩ : Addr) else some ⟨p.b, p.k + o + (0 : Int).toNat * z', none⟩) = some ⟨p.b, p.k + o, none⟩ := by simp
                  rw [e]
                  exact .sl hp (fun d hd => by cases hd) (by omega) (by simp; omega)
                · cases he
            · cases he
        · cases he
      · cases he
    · cases he
  · rename_i i o
    cases hx with
    | ptr hp =>
      rename_i p
      split at he
      · rename_i n elem hu
        split at he
        · rename_i z l u cells ro hz hl hu2 hm
          split at he
          · rename_i hc h0 h1 h2
            have hc := of_decide_eq_true hc
            have h0 := of_decide_eq_true h0
            have h1 := of_decide_eq_true h1
            have h2 := of_decide_eq_true h2
            obtain ⟨_, hlen, _⟩ := hw.ent i _ p hm hp
            have hroom : o + n * z ≤ p.m := by omega
            have hlo' := orInt_rel hlo hl
            have hhi' := orInt_rel hhi hu2
            have hb := bounds_run (P := P) (isSlice := false) (len := n) (cap := n) hlo' hhi' h0 h1 h2 w
            have hr : (Instr.sliceAt t (.pointer (some ⟨p.b, p.k + o, none⟩)) rlo rhi none).run P w = .ok (.slice (if n = l.toNat then some ⟨p.b, p.k + o, none⟩ else some ⟨p.b, p.k + o + l.toNat * z, none⟩) (u.toNat - l.toNat) (n - l.toNat)) w := by
              simp [Instr.sliceAt, run_underlying hu, Instr.sureAddr, hb, sizeT_run hz, add_at]
              split <;> rfl
            split at he
            · rename_i h3
              have h3 := of_decide_eq_true h3
              simp only [Option.some.injEq] at he
              subst he
              rw [if_pos h3] at hr
              exact ⟨_, hr, .sl hp (fun d hd => (Option.some.inj hd).symm) (by omega) (by rw [h3]; simp; omega)⟩
            · rename_i h3
              have h3 := of_decide_eq_false h3
              simp only [Option.some.injEq] at he
              subst he
              rw [if_neg h3] at hr
              refine ⟨_, hr, ?_⟩
              rw [Nat.add_assoc]
              exact .sl hp (fun d hd => (Option.some.inj hd).symm) (by omega) (mul_room hroom (by omega))
          · cases he
        · cases he
      · cases he
  · cases he

/-! ### copy -/

theorem srcTake_ok {P : Program} {φ : Phi} {h : H} {w : World} {z n : Nat} {x : EV} {r : Value} {xs : List EV} (hw : WR φ h w) (hr : VR φ x r) (he : srcCells h z x = some (n, xs)) :
    ∃ ys, VRs φ xs ys ∧ (∀ v ∈ ys, v.oneCell' = true) ∧ ys.length = n * z ∧ (Builtin.lenOf r).run P w = .ok n w ∧ ∀ k, k ≤ n → (Builtin.firstCells z k r).run P w = .ok (ys.take (k * z)).toArray w := by
  unfold srcCells at he
  split at he
  · rename_i i o n' c z'
    split at he
    · rename_i hz
      have hz := of_decide_eq_true hz
      subst hz
      split at he
      · rename_i cells ro hm
        split at he
        · rename_i hl
          have hl := of_decide_eq_true hl
          simp only [Option.some.injEq, Prod.mk.injEq] at he
          obtain ⟨rfl, rfl⟩ := he
          obtain ⟨p, cap, rfl, hp, hcap, hn, hroom⟩ := sl_inv hr
          obtain ⟨⟨y, hy, hrg, hone⟩, _, _⟩ := hw.ent i _ p hm hp
          have hyl := hy.length
          have hlen : ((y.drop o).take (n' * z')).length = n' * z' := by simp; omega
          refine ⟨_, (hy.drop o).take (n' * z'), fun v hv => hone v (List.mem_of_mem_drop (List.mem_of_mem_take hv)), hlen, rfl, fun k hk => ?_⟩
          have hkz : k * z' ≤ n' * z' := Nat.mul_le_mul_right _ hk
          refine run_firstCells_some w z' k _ n' cap _ (by rw [List.length_take, hlen]; omega) fun j u hu => ?_
          rw [add_at]
          rw [List.take_take, Nat.min_eq_left hkz] at hu
          exact range_sub hrg o (k * z') j u hu
        · cases he
      · cases he
    · cases he
  · rename_i c
    simp only [Option.some.injEq, Prod.mk.injEq] at he
    obtain ⟨rfl, rfl⟩ := he
    cases hr
    refine ⟨[], .nil, (fun _ h => by cases h), by simp, rfl, fun k hk => ?_⟩
    obtain rfl : k = 0 := by omega
    simpa using run_firstCells_none w z 0 0 c
  · rename_i s
    split at he
    · rename_i hz
      have hz := of_decide_eq_true hz
      subst hz
      simp only [Option.some.injEq, Prod.mk.injEq] at he
      obtain ⟨rfl, rfl⟩ := he
      cases hr
      have hb : VRs φ (s.data.toList.map fun b => EV.sc (.int .u8 b.toNat)) (byteCells s) := by
        have := VRs.scs (φ := φ) (byteCells s)
        rw [byteCells, List.map_map] at this
        exact this
      refine ⟨byteCells s, hb, fun u hu => ?_, by rw [byteCells_length, Nat.mul_one], rfl, fun k hk => ?_⟩
      · obtain ⟨_, _, rfl⟩ := List.mem_map.1 hu
        rfl
      · simp only [Builtin.firstCells, Sem.run_pure]
        congr 1
        apply Array.ext'
        rw [Nat.mul_one]
        simp [byteCells]
    · cases he
  · cases he

def eCopy (P : Program) (h : H) (t : TypeId) (d x : EV) : Option (EV × H) := match P.underlying t with
  | some (.slice e) => match sizeT P e, d with
    | some z, .sl i o n _ z' => match decide (z' = z), srcCells h z x, h.mem.get i with
      | true, some (m, xs), some (.row cells false) => match writeAt cells o (xs.take (Nat.min m n * z)) with
        | some cs => match h.put i (some (.row cs false)) with
          | some h' => some (.sc (.int .i64 (Nat.min m n)), h')
          | none => none
        | none => none
      | _, _, _ => none
    | _, _ => none
  | _ => none
theorem eCopy_ok {P : Program} {φ : Phi} {h h' : H} {w : World} {t tx ty : TypeId} {d x v : EV} {rd rx : Value} (hw : WR φ h w) (hd : VR φ d rd) (hx : VR φ x rx) (he : eCopy P h t d x = some (v, h')) :
    ∃ u φ' w', (Builtin.copy_ #[t, tx] ty #[rd, rx]).run P w = .ok u w' ∧ VR φ' v u ∧ Step φ h w φ' h' w' := by
  unfold eCopy at he
  split at he
  · rename_i e hu
    split at he
    · rename_i z i o n c z' hz
      obtain ⟨p, cap, rfl, hp, _, hn, hroom⟩ := sl_inv hd
      split at he
      · rename_i m xs cells hzz hsrc hm
        have hzz := of_decide_eq_true hzz
        subst hzz
        split at he
        · rename_i cs hwr
          split at he
          · rename_i h2 hput
            simp only [Option.some.injEq, Prod.mk.injEq] at he
            obtain ⟨rfl, rfl⟩ := he
            obtain ⟨ys, hys, hone, hyl, hlen, hfirst⟩ := srcTake_ok (P := P) hw hx hsrc
            obtain ⟨hth, hst⟩ := Step.put hw hm hp rfl (hys.take (Nat.min m n * z')) (fun v hv => hone v (List.mem_of_mem_take hv)) hwr hput
            have hrun := run_storeCells_cells (P := P) p.b (p.k + o) (ys.take (Nat.min m n * z')) 0 w (fun j hj => by simpa using (hth j hj).1) (fun j hj => by simpa using (hth j hj).2) (fun v hv => hone v (List.mem_of_mem_take hv))
            simp only [Nat.add_zero] at hrun
            refine ⟨.int .i64 (Nat.min m n), φ, _, ?_, .sc, hst⟩
            simp [Builtin.copy_, run_underlying hu, hlen, sizeT_run hz, hfirst _ (Nat.min_le_left m n), hrun, goInt]
          · cases he
        · cases he
      · cases he
    · cases he
  · cases he
end Go.Proofs.YtjcmbnpabkhcfaaGreatDoor.Eng
