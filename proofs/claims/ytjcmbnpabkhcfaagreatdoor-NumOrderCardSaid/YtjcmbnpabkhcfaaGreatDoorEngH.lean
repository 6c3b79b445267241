import Derived.Test.YtjcmbnpabkhcfaaGreatDoorEngG
namespace Go.Proofs.YtjcmbnpabkhcfaaGreatDoor.Eng
open Go.RowKit
open Go Go.Proofs
set_option linter.unusedVariables false
set_option linter.unusedSimpArgs false

/-! ### Conversions -/

def intsU8 : List EV → Option (List Int)
  | [] => some []
  | .sc (.int .u8 n) :: l => match intsU8 l with
    | some r => some (n :: r)
    | none => none
  | _ => none
theorem intsU8_rel {φ : Phi} : ∀ {l : List EV} {x : List Value} {ns : List Int}, VRs φ l x → intsU8 l = some ns → x = ns.map (Value.int .u8)
  | _, _, _, .nil, h => by
    simp only [intsU8, Option.some.injEq] at h
    subst h
    rfl
  | e :: l, _, ns, .cons a b, h => by
    unfold intsU8 at h
    split at h
    · rename_i h1
      cases h1
    · rename_i n l' h1
      simp only [List.cons.injEq] at h1
      obtain ⟨rfl, rfl⟩ := h1
      split at h
      · rename_i r hr
        simp only [Option.some.injEq] at h
        subst h
        cases a
        rw [intsU8_rel b hr]
        rfl
      · cases h
    · cases h

theorem freeze_alloc (w : World) (C : Array Value) (e : TypeId) (k : Nat) : (w.alloc (.cells C e)).freeze ⟨w.heap.size, k, none⟩ 1 = w.alloc (.cells C e (k, k + 1)) := by
  unfold World.freeze
  rw [if_neg (by decide)]
  unfold World.alloc
  congr 1
  apply Array.ext_getElem?
  intro i
  rw [Array.getElem?_modify, Array.getElem?_push, Array.getElem?_push]
  by_cases hi : i = w.heap.size
  · subst hi
    simp
  · rw [if_neg (by simpa using fun h => hi h.symm)]
    simp [hi]

theorem ER.new_rowF {φ : Phi} {w : World} {cells : List EV} {x : List Value} {C : Array Value} {t : TypeId} {fz : Nat × Nat} (hx : VRs φ cells x) (h1 : ∀ v ∈ x, v.oneCell' = true) (hC : ∀ (j : Nat) (v : Value), x[j]? = some v → C[j]? = some v) (hl : x.length ≤ C.size) (hf : C.size ≤ fz.1) :
    ER φ (w.alloc (.cells C t fz)) ⟨w.heap.size, 0, C.size⟩ (.row cells false) := by
  have hh := heap_alloc_new w (.cells C t fz)
  have hc : ∀ j, (w.alloc (.cells C t fz)).cell? ⟨w.heap.size, 0 + j, none⟩ = C[j]? := fun j => by
    unfold World.cell?
    simp only [hh, Option.isSome_none, Bool.false_eq_true, if_false, Nat.zero_add]
  refine ⟨⟨x, hx, fun j v hv => by rw [hc]; exact hC j v hv, h1⟩, by rw [hx.length]; exact hl, fun _ j hj => ⟨?_, ?_⟩⟩
  · rw [hc]
    simp only at hj
    simp [hj]
  · unfold World.frozen?
    simp only [hh]
    simp only at hj
    simp
    intro h
    omega

def eConvert (P : Program) (h : H) (src dst : TypeId) (x : EV) : Option (EV × H) := match x with
  | .sl i o n c z => match P.underlying src, P.underlying dst with
    | some (.slice _), some .string => match P.underlying (match P.underlying src with | some (.slice e) => e | _ => 0) with
      | some (.int .u8) => match srcCells h 1 (.sl i o n c z) with
        | some (_, xs) => match intsU8 xs with
          | some ns => some (.sc (.string (ns.foldl (fun r n => r.push (UInt8.ofNat n.toNat)) ByteArray.empty)), h)
          | none => none
        | none => none
      | _ => none
    | _, _ => none
  | .sc (.string s) => match P.underlying src, P.underlying dst with
    | some .string, some (.slice e) => match P.underlying e with
      | some (.int .u8) => match h.new (.row (s.data.toList.map fun b => .sc (.int .u8 b.toNat)) false) with
        | some h' => some (.sl h.next 0 s.size none 1, h')
        | none => none
      | _ => none
    | _, _ => none
  | _ => none
theorem eConvert_ok {P : Program} {φ : Phi} {h h' : H} {w : World} {src dst : TypeId} {x v : EV} {rx : Value} (hw : WR φ h w) (hx : VR φ x rx) (he : eConvert P h src dst x = some (v, h')) :
    ∃ u φ' w', (convert src dst rx).run P w = .ok u w' ∧ VR φ' v u ∧ Step φ h w φ' h' w' := by
  unfold eConvert at he
  split at he
  · rename_i i o n c z
    split at he
    · rename_i e hs hd
      rw [hs] at he
      simp only at he
      split at he
      · rename_i hue
        split at he
        · rename_i m xs hsrc
          split at he
          · rename_i ns hns
            simp only [Option.some.injEq, Prod.mk.injEq] at he
            obtain ⟨rfl, rfl⟩ := he
            obtain ⟨ys, hys, hone, hyl, hlen, hfirst⟩ := srcTake_ok (P := P) hw hx hsrc
            obtain ⟨p, cap, rfl, hp, _, hn, hroom⟩ := sl_inv hx
            have hyn := intsU8_rel hys hns
            obtain rfl : n = m := by
              simp [Builtin.lenOf] at hlen
              exact hlen
            have hf := hfirst n (Nat.le_refl _)
            rw [Nat.mul_one, List.take_of_length_le (by omega), hyn] at hf
            have hl : (loadCells ⟨p.b, p.k + o, none⟩ n).run P w = .ok (ns.map (Value.int .u8)).toArray w := by
              simpa [Builtin.firstCells] using hf
            have hb := run_bytesToString w ⟨p.b, p.k + o, none⟩ n cap ns hl
            refine ⟨_, φ, w, ?_, .sc, .refl hw⟩
            simp only [convert, Sem.run_bind, run_underlying hs, run_underlying hd, Result.andThen_ok, run_underlying hue, hb]
          · cases he
        · cases he
      · cases he
    · cases he
  · rename_i s
    split at he
    · rename_i e hs hd
      split at he
      · rename_i hue
        split at he
        · rename_i h2 hnew
          simp only [Option.some.injEq, Prod.mk.injEq] at he
          obtain ⟨rfl, rfl⟩ := he
          cases hx
          have hge := grownCap_ge w s.size 0 e
          have hgc : grownCap w s.size 0 e = (Question.appendCap s.size 0 e).cut (w.tape w.drawn (.appendCap s.size 0 e)) := rfl
          generalize hcap : grownCap w s.size 0 e = cap at *
          have hC : ((s.data.map fun b => Value.int .u8 b.toNat) ++ Array.replicate (cap - s.size) (Value.int .u8 0)).size = cap := by
            have : s.data.size = s.size := rfl
            simp
            omega
          have hb : ∀ φ', VRs φ' (s.data.toList.map fun b => EV.sc (.int .u8 b.toNat)) (byteCells s) := fun φ' => by
            have := VRs.scs (φ := φ') (byteCells s)
            rw [byteCells, List.map_map] at this
            exact this
          refine ⟨.slice (some ⟨w.heap.size, 0, none⟩) s.size cap, _, w.drew.alloc (.cells ((s.data.map fun b => Value.int .u8 b.toNat) ++ Array.replicate (cap - s.size) (Value.int .u8 0)) e (cap, cap + 1)), ?_, .sl (p := ⟨w.drew.heap.size, 0, _⟩) (o := 0) (Phi.put_same _ _ _) (fun d hd => by cases hd) hge (by simp only [Nat.zero_add, Nat.mul_one]; exact Nat.le_of_eq hC.symm),
            (Step.drew hw).trans (Step.alloc (m := ((s.data.map fun b => Value.int .u8 b.toNat) ++ Array.replicate (cap - s.size) (Value.int .u8 0)).size) (WR.congr (w := w) (w' := w.drew) rfl hw) hnew fun φ' hl => ER.new_rowF (hb φ') (fun u hu => ?_) (fun j u hu => ?_) ?_ (Nat.le_of_eq hC))⟩
          · have hfr := freeze_alloc w.drew ((s.data.map fun b => Value.int .u8 b.toNat) ++ Array.replicate (cap - s.size) (Value.int .u8 0)) e cap
            have hsh : (w.drew.alloc (.cells ((s.data.map fun b => Value.int .u8 b.toNat) ++ Array.replicate (cap - s.size) (Value.int .u8 0)) e)).shape? w.heap.size = some (e, cap) := by
              have hh := heap_alloc_new w.drew (.cells ((s.data.map fun b => Value.int .u8 b.toNat) ++ Array.replicate (cap - s.size) (Value.int .u8 0)) e)
              unfold World.shape?
              rw [show w.heap.size = w.drew.heap.size from rfl, hh]
              simp only [hC]
            have hq : (Question.appendCap s.size 0 e).forced = false := rfl
            simp only [convert, Sem.run_bind, run_underlying hs, run_underlying hd, Result.andThen_ok, run_underlying hue, Conv.stringToBytes, choose, Sem.run, hq, Bool.false_eq_true, if_false, ← hgc, newRow, newObj, Sem.run_pure, markStringish, shape, freeze]
            simp only [World.alloc, World.drew] at hsh hfr ⊢
            rw [hsh]
            simp only [Sem.run, Result.andThen_ok]
            exact congrArg (Result.ok _) hfr
          · obtain ⟨_, _, rfl⟩ := List.mem_map.1 hu
            rfl
          · have hlt : j < (byteCells s).length := (List.getElem?_eq_some_iff.1 hu).1
            rw [byteCells_length] at hlt
            rw [Array.getElem?_append_left (by simpa using hlt)]
            simpa [byteCells] using hu
          · rw [byteCells_length, hC]
            exact hge
        · cases he
      · cases he
    · cases he
  · cases he

/-! ### Comparison with nil -/

def nilCmp (P : Program) (t : TypeId) (x y : EV) : Bool := match P.underlying t with
  | some (.slice _) => match x, y with
    | .sl .., .sc (.slice none _ _) => true
    | .sc (.slice none _ _), .sl .. => true
    | _, _ => false
  | some (.pointer _) => match x, y with
    | .ptr .., .sc (.pointer none) => true
    | .sc (.pointer none), .ptr .. => true
    | _, _ => false
  | some (.map ..) => match x, y with
    | .mp _, .sc (.map none) => true
    | .sc (.map none), .mp _ => true
    | _, _ => false
  | some (.interface _) => match x, y with
    | .ifc .., .sc .nilIface => true
    | .sc .nilIface, .ifc .. => true
    | _, _ => false
  | _ => false
theorem eq_false {P : Program} {w : World} {t : TypeId} {x y : Value} (he : ∀ d, (Op.equalIn (d + 1) t x y).run P w = .ok false w) : (Op.equal t x y).run P w = .ok false w := he 9999
theorem cmp_fin {P : Program} {w : World} {t : TypeId} {x y : Value} {ox oy : Operand} (h : (Op.equal t x y).run P w = .ok false w) (g1 : eqGuard .eql t ox oy x y = pure ()) (g2 : eqGuard .neq t ox oy x y = pure ())
    (b1 : binOp .eql t x y = do pure (.bool (← Op.equal t x y))) (b2 : binOp .neq t x y = do pure (.bool (!(← Op.equal t x y)))) :
    ((do eqGuard .eql t ox oy x y; binOp .eql t x y : Sem Value)).run P w = .ok (.bool false) w ∧ ((do eqGuard .neq t ox oy x y; binOp .neq t x y : Sem Value)).run P w = .ok (.bool true) w := by
  rw [g1, g2, b1, b2]
  simp [h]
theorem nilCmp_ok {P : Program} {φ : Phi} {w : World} {t : TypeId} {x y : EV} {rx ry : Value} (hx : VR φ x rx) (hy : VR φ y ry) (he : nilCmp P t x y = true) (ox oy : Operand) :
    ((do eqGuard .eql t ox oy rx ry; binOp .eql t rx ry : Sem Value)).run P w = .ok (.bool false) w ∧ ((do eqGuard .neq t ox oy rx ry; binOp .neq t rx ry : Sem Value)).run P w = .ok (.bool true) w := by
  unfold nilCmp at he
  split at he
  · rename_i e hu
    split at he
    · cases hx
      cases hy
      exact cmp_fin (eq_false fun d => by simp [Op.equalIn, run_underlying hu]) (by simp [eqGuard]) (by simp [eqGuard]) (by simp [binOp]) (by simp [binOp])
    · cases hx
      cases hy
      exact cmp_fin (eq_false fun d => by simp [Op.equalIn, run_underlying hu]) (by simp [eqGuard]) (by simp [eqGuard]) (by simp [binOp]) (by simp [binOp])
    · cases he
  · rename_i e hu
    split at he
    · cases hx
      cases hy
      exact cmp_fin (eq_false fun d => by simp [Op.equalIn, run_underlying hu]) (by simp [eqGuard]) (by simp [eqGuard]) (by simp [binOp]) (by simp [binOp])
    · cases hx
      cases hy
      exact cmp_fin (eq_false fun d => by simp [Op.equalIn, run_underlying hu]) (by simp [eqGuard]) (by simp [eqGuard]) (by simp [binOp]) (by simp [binOp])
    · cases he
  · rename_i k e hu
    split at he
    · cases hx
      cases hy
      exact cmp_fin (eq_false fun d => by simp [Op.equalIn, run_underlying hu]) (by simp [eqGuard]) (by simp [eqGuard]) (by simp [binOp]) (by simp [binOp])
    · cases hx
      cases hy
      exact cmp_fin (eq_false fun d => by simp [Op.equalIn, run_underlying hu]) (by simp [eqGuard]) (by simp [eqGuard]) (by simp [binOp]) (by simp [binOp])
    · cases he
  · rename_i ms hu
    split at he
    · cases hx
      cases hy
      exact cmp_fin (eq_false fun d => by simp [Op.equalIn, run_underlying hu]) (by simp [eqGuard]) (by simp [eqGuard]) (by simp [binOp]) (by simp [binOp])
    · cases hx
      cases hy
      exact cmp_fin (eq_false fun d => by simp [Op.equalIn, run_underlying hu]) (by simp [eqGuard]) (by simp [eqGuard]) (by simp [binOp]) (by simp [binOp])
    · cases he
  · cases he
end Go.Proofs.YtjcmbnpabkhcfaaGreatDoor.Eng
