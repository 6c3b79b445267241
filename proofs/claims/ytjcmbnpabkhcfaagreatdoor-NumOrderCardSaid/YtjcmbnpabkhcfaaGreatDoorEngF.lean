import Derived.Test.YtjcmbnpabkhcfaaGreatDoorEngE
import Derived.Deep.Upon
namespace Go.Proofs.YtjcmbnpabkhcfaaGreatDoor.Eng
open Go.RowKit
open Go Go.Proofs
set_option linter.unusedVariables false
set_option linter.unusedSimpArgs false

/-- An entry is forgotten. -/
theorem Step.kill {φ : Phi} {h h1 : H} {w : World} {i : Nat} (hw : WR φ h w) (hi : i < h.next) (hd : h.put i none = some h1) : Step φ h w φ h1 w := by
  obtain ⟨d1, d2, d3, d4⟩ := H.put_spec hd
  have hsome : ∀ j, (h1.mem.get j).isSome = true → j ≠ i ∧ h.mem.get j = h1.mem.get j := fun j hj => by
    have hji : j ≠ i := fun e => by subst e; rw [d3] at hj; cases hj
    exact ⟨hji, (d4 j hji).symm⟩
  refine ⟨⟨fun j e p hj hp => ?_, fun a b p q ha hb hp hq hab => ?_, fun j p hp => by rw [d1]; exact hw.dom j p hp⟩, ⟨by omega, by omega, fun j hj hl => d4 j (by omega)⟩, ⟨fun _ _ => rfl, rfl, rfl, rfl, Nat.le_refl _, fun _ _ _ => rfl, fun _ _ hi _ => .inl hi⟩⟩
  · obtain ⟨_, he⟩ := hsome j (by rw [hj]; rfl)
    rw [← he] at hj
    exact hw.ent j e p hj hp
  · obtain ⟨_, ha'⟩ := hsome a ha
    obtain ⟨_, hb'⟩ := hsome b hb
    rw [← ha'] at ha
    rw [← hb'] at hb
    exact hw.sep a b p q ha hb hp hq hab

theorem zeroCells_size {z : Value} {n k : Nat} (hz : z.cells.size = n) : (Builtin.zeroCells z.cells k).size = k * n := by rw [size_zeroCells, hz]

/-- A slice grows into a new block. -/
theorem grown_ok {P : Program} {φ : Phi} {h h' : H} {w : World} {t tx ty e : TypeId} {i : TypeInfo} {z : Value} {base : Option Addr} {n c m : Nat} {olds news : List EV} {xo xn : List Value} {x : Value}
    (hw : WR φ h w) (ht : P.underlying t = some (.slice e)) (hi : P.info? e = some i) (hz : i.zero = some z) (hzs : z.cells.size = i.size)
    (hold : (Builtin.firstCells i.size n (.slice base n c)).run P w.drew = .ok xo.toArray w.drew) (hxo : VRs φ olds xo) (hol : xo.length = n * i.size) (ho1 : ∀ v ∈ xo, v.oneCell' = true)
    (hs : Src P i.size tx x m xn w) (hxn : VRs φ news xn) (hg : c < n + m) (h63 : n + m ≤ 1000000000) (hfit : 2 * (n + m) * i.bytes ≤ 281474976710656)
    (hn : h.new (.row (olds ++ news) false) = some h') :
    ∃ u φ' w', (Builtin.append_ #[t, tx] ty #[.slice base n c, x]).run P w = .ok u w' ∧ VR φ' (.sl h.next 0 (n + m) none i.size) u ∧ Step φ h w φ' h' w' := by
  have h1 := run_append_grow_src w t tx ty e i z ht hi hz base n c xo hold x m xn hs hg (by omega) (Nat.le_trans (Nat.mul_le_mul_right _ (nextslicecap_le hg)) hfit)
  have hge := grownCap_ge w (n + m) c e
  generalize grownCap w (n + m) c e = cap at *
  have hnl := hs.newsLen
  have hC : ((xo ++ xn).toArray ++ Builtin.zeroCells z.cells (cap - (n + m))).size = cap * i.size := by
    rw [Array.size_append, zeroCells_size hzs]
    simp only [List.size_toArray, List.length_append, hol, hnl]
    rw [← Nat.add_mul, ← Nat.add_mul]
    congr 1
    omega
  refine ⟨_, _, _, h1, .sl (p := ⟨w.drew.heap.size, 0, _⟩) (o := 0) (Phi.put_same _ _ _) (fun d hd => by cases hd) hge ?_, (Step.drew hw).trans (Step.alloc (m := ((xo ++ xn).toArray ++ Builtin.zeroCells z.cells (cap - (n + m))).size) (WR.congr (w := w) (w' := w.drew) rfl hw) hn fun φ' hl => ER.new_row ((hxo.append hxn).mono hl) (fun v hv => ?_) (fun j v hv => ?_) ?_)⟩
  · simp only [Nat.zero_add]
    exact Nat.le_of_eq hC.symm
  · rcases List.mem_append.1 hv with hv | hv
    · exact ho1 v hv
    · exact hs.one v hv
  · have hlt : j < (xo ++ xn).length := (List.getElem?_eq_some_iff.1 hv).1
    rw [Array.getElem?_append_left (by simpa using hlt)]
    simpa using hv
  · rw [hC]
    simp only [List.length_append, hol, hnl]
    rw [← Nat.add_mul]
    exact Nat.mul_le_mul_right _ hge

def eAppend (P : Program) (h : H) (t tx : TypeId) (s x : EV) : Option (EV × H) := match P.underlying t with
  | some (.slice e) => match P.info? e, sliceOk P tx with
    | some i, true => match i.zero with
      | some z => match decide (z.cells.size = i.size), srcCells h i.size x with
        | true, some (m, xs) => match s with
          | .sc (.slice none 0 0) => match m with
            | 0 => some (s, h)
            | k + 1 => match decide (k < 999999999), decide (2 * (k + 1) * i.bytes ≤ 281474976710656), h.new (.row ([] ++ xs) false) with
              | true, true, some h' => some (.sl h.next 0 (0 + (k + 1)) none i.size, h')
              | _, _, _ => none
          | .sl b o n (some c) zz => match decide (zz = i.size), decide (n + m ≤ c) with
            | true, true => match h.mem.get b with
              | some (.row cells false) => match writeAt cells (o + n * i.size) xs with
                | some cs => match h.put b (some (.row cs false)) with
                  | some h' => some (.sl b o (n + m) (some c) i.size, h')
                  | none => none
                | none => none
              | _ => none
            | true, false => match srcCells h i.size s, decide (n + m ≤ 1000000000), decide (2 * (n + m) * i.bytes ≤ 281474976710656) with
              | some (_, os), true, true => match h.new (.row (os ++ xs) false) with
                | some h' => some (.sl h.next 0 (n + m) none i.size, h')
                | none => none
              | _, _, _ => none
            | _, _ => none
          | .sl b o n none zz => match decide (zz = i.size), decide (n + m ≤ 1000000000), decide (2 * (n + m) * i.bytes ≤ 281474976710656) with
            | true, true, true => match h.mem.get b with
              | some (.row cells false) => match decide (o + n * i.size ≤ cells.length), h.put b none with
                | true, some h1 => match h1.new (.row ((cells.drop o).take (n * i.size) ++ xs) false) with
                  | some h' => some (.sl h.next 0 (n + m) none i.size, h')
                  | none => none
                | _, _ => none
              | _ => none
            | _, _, _ => none
          | _ => none
        | _, _ => none
      | none => none
    | _, _ => none
  | _ => none

theorem sl_inv {φ : Phi} {i o n z : Nat} {c : Option Nat} {r : Value} (h : VR φ (.sl i o n c z) r) : ∃ p cap, r = .slice (some ⟨p.b, p.k + o, none⟩) n cap ∧ φ i = some p ∧ (∀ d, c = some d → d = cap) ∧ n ≤ cap ∧ o + cap * z ≤ p.m := by
  cases h with
  | sl h1 h2 h3 h4 => exact ⟨_, _, rfl, h1, h2, h3, h4⟩

theorem eAppend_ok {P : Program} {φ : Phi} {h h' : H} {w : World} {t tx ty : TypeId} {s x v : EV} {rs rx : Value} (hw : WR φ h w) (hs : VR φ s rs) (hx : VR φ x rx) (he : eAppend P h t tx s x = some (v, h')) :
    ∃ u φ' w', (Builtin.append_ #[t, tx] ty #[rs, rx]).run P w = .ok u w' ∧ VR φ' v u ∧ Step φ h w φ' h' w' := by
  unfold eAppend at he
  split at he
  · rename_i e ht
    split at he
    · rename_i i hi hok
      split at he
      · rename_i z hz
        split at he
        · rename_i m xs hzs hsrc
          have hzs := of_decide_eq_true hzs
          obtain ⟨xn, hxn, hone, hS⟩ := srcCells_ok (P := P) (tx := tx) hw hx hok hsrc
          split at he
          · -- nil
            cases hs
            split at he
            · simp only [Option.some.injEq, Prod.mk.injEq] at he
              obtain ⟨rfl, rfl⟩ := he
              refine ⟨.slice none 0 0, φ, w, ?_, .sc, .refl hw⟩
              have hx0 : xn = [] := List.eq_nil_of_length_eq_zero (by rw [hS.newsLen]; simp)
              subst hx0
              exact run_append_nothing w t tx ty e i ht hi none 0 0 (Nat.le_refl _) rx hS
            · rename_i k
              split at he
              · rename_i h2 hk1 hk2 hn
                simp only [Option.some.injEq, Prod.mk.injEq] at he
                obtain ⟨rfl, rfl⟩ := he
                have hk1 := of_decide_eq_true hk1
                have hk2 := of_decide_eq_true hk2
                exact grown_ok (olds := []) (xo := []) hw ht hi hz hzs (run_firstCells_none w.drew i.size 0 0 0) .nil (by simp) (fun _ h => by cases h) hS hxn (by omega) (by omega) (by rw [Nat.zero_add]; exact hk2) hn
              · cases he
          · rename_i b o n c zz
            obtain ⟨p, cap, rfl, hp, hcap, hn, hroom⟩ := sl_inv hs
            obtain rfl := hcap c rfl
            split at he
            · rename_i hzz hfit
              have hzz := of_decide_eq_true hzz
              have hfit := of_decide_eq_true hfit
              subst hzz
              split at he
              · rename_i cells hm
                split at he
                · rename_i cs hwr
                  split at he
                  · rename_i h2 hput
                    simp only [Option.some.injEq, Prod.mk.injEq] at he
                    obtain ⟨rfl, rfl⟩ := he
                    obtain ⟨hth, hst⟩ := Step.put hw hm hp rfl hxn hone hwr hput
                    have hrun := run_append_room_src w t tx ty e i ht hi p.b (p.k + o) n c rx m xn hS hfit (fun j hj => by have := (hth j hj).1; rwa [← Nat.add_assoc] at this) (fun j hj => by have := (hth j hj).2; rwa [← Nat.add_assoc] at this)
                    rw [Nat.add_assoc p.k o] at hrun
                    refine ⟨_, φ, _, hrun, ?_, hst⟩
                    exact .sl hp (fun d hd => (Option.some.inj hd).symm) hfit hroom
                  · cases he
                · cases he
              · cases he
            · rename_i hzz hfit
              have hzz := of_decide_eq_true hzz
              have hfit := of_decide_eq_false hfit
              subst hzz
              split at he
              · rename_i n' os hsrc2 hb1 hb2
                have hb1 := of_decide_eq_true hb1
                have hb2 := of_decide_eq_true hb2
                split at he
                · rename_i h2 hnew
                  simp only [Option.some.injEq, Prod.mk.injEq] at he
                  obtain ⟨rfl, rfl⟩ := he
                  obtain ⟨xo, hxo, hone2, hS2⟩ := srcCells_ok (P := P) (tx := t) hw hs (by unfold sliceOk; rw [ht]) hsrc2
                  have hnn : n' = n := by
                    have := hS2.len w
                    simp [Builtin.lenOf] at this
                    exact this.symm
                  subst hnn
                  exact grown_ok hw ht hi hz hzs hS2.cellsD hxo hS2.newsLen hone2 hS hxn (by omega) hb1 hb2 hnew
                · cases he
              · cases he
            · cases he
          · rename_i b o n zz
            obtain ⟨p, cap, rfl, hp, _, hn, hroom⟩ := sl_inv hs
            split at he
            · rename_i hzz hb1 hb2
              have hzz := of_decide_eq_true hzz
              have hb1 := of_decide_eq_true hb1
              have hb2 := of_decide_eq_true hb2
              subst hzz
              split at he
              · rename_i cells hm
                split at he
                · rename_i h1 hle hd
                  have hle := of_decide_eq_true hle
                  split at he
                  · rename_i h2 hnew
                    simp only [Option.some.injEq, Prod.mk.injEq] at he
                    obtain ⟨rfl, rfl⟩ := he
                    have hnl := hS.newsLen
                    by_cases hfit : n + m ≤ cap
                    · have hmul : (n + m) * i.size ≤ cap * i.size := Nat.mul_le_mul_right _ hfit
                      rw [Nat.add_mul] at hmul
                      obtain ⟨hth, hst⟩ := Step.grow hw hm hp rfl hle hxn hone (by omega) hd hnew
                      have hrun := run_append_room_src w t tx ty e i ht hi p.b (p.k + o) n cap rx m xn hS hfit (fun j hj => (hth j hj).1) (fun j hj => (hth j hj).2)
                      refine ⟨_, _, _, hrun, ?_, hst⟩
                      exact .sl (p := ⟨p.b, p.k + o, p.m - o⟩) (o := 0) (Phi.put_same _ _ _) (fun d hd => by cases hd) hfit (by simp only; omega)
                    · have hsrc2 : srcCells h i.size (.sl b o n none i.size) = some (n, (cells.drop o).take (n * i.size)) := by
                        simp only [srcCells, hm, decide_true, hle]
                      obtain ⟨xo, hxo, hone2, hS2⟩ := srcCells_ok (P := P) (tx := t) hw hs (by unfold sliceOk; rw [ht]) hsrc2
                      have hk := Step.kill hw (hw.dom b p hp).1 hd
                      obtain ⟨u, φ', w', r1, r2, r3⟩ := grown_ok hk.wr ht hi hz hzs hS2.cellsD hxo hS2.newsLen hone2 hS hxn (by omega) hb1 hb2 hnew
                      rw [(H.put_spec hd).1] at r2
                      exact ⟨u, φ', w', r1, r2, hk.trans r3⟩
                  · cases he
                · cases he
              · cases he
            · cases he
          · cases he
        · cases he
      · cases he
    · cases he
  · cases he
end Go.Proofs.YtjcmbnpabkhcfaaGreatDoor.Eng
