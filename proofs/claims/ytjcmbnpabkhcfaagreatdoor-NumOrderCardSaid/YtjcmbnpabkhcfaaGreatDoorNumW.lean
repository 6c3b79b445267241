/- What the functions of the law compute, each walked once. -/
import Derived.Test.YtjcmbnpabkhcfaaGreatDoorLiveW
import Derived.WalkKit
import Derived.WalkLawsBesides
namespace Go.Proofs.YtjcmbnpabkhcfaaGreatDoor
open Go.RowKit
set_option linter.unusedVariables false
set_option linter.unusedSimpArgs false
abbrev ord (a b : Nat) : Option Ordering := FloatKind.f64.format.order a b
def nanB (a : Nat) : Bool := !decide (ord a a = some .eq)
def ltB (a b : Nat) : Bool := decide (ord a b = some .lt)
def eqB (a b : Nat) : Bool := decide (ord a b = some .eq)
def sgB (a : Nat) : Bool := decide (wrap64 (a : Int) < 0)
def neg (a : Nat) : Nat := Op.negFloat .f64 a
def sameB (a b : Nat) : Bool := bif nanB a || nanB b then nanB a && nanB b else decide ((a : Int) = b)
def nanC : Nat := Int.toNat 9221120237041090561
def leastB (a b : Nat) : Nat := bif nanB a || nanB b then nanC else bif eqB a 0 && eqB b 0 then (bif sgB a then a else b) else bif ltB a b then a else b
def firstB (a b : Nat) : Bool := ltB a b || (eqB a b && decide ((a : Int) / 9223372036854775808 = 1))
theorem beqO (a b : Option Ordering) : (a == b) = decide (a = b) := by
  rw [Bool.eq_iff_iff]
  simp
theorem beqI (a b : Int) : (a == b) = decide (a = b) := by
  rw [Bool.eq_iff_iff]
  simp
def ArithRes (op : BinOp) (a b r : Nat) : Prop := match floatBits op .f64 a b with
  | some z => r = z
  | none => nanB r = true
def DoRes (o : Int) (a b r : Nat) (er : Int) : Prop :=
  (o = 1 ∧ ArithRes .add a b r ∧ er = 0) ∨ (o = 2 ∧ ArithRes .sub a b r ∧ er = 0) ∨ (o = 3 ∧ ArithRes .mul a b r ∧ er = 0) ∨ (o = 4 ∧ ArithRes .quo a b r ∧ er = 0) ∨
  (o = 5 ∧ r = leastB a b ∧ er = 0) ∨ (o = 6 ∧ r = neg (leastB (neg a) (neg b)) ∧ er = 0) ∨ (o ≠ 1 ∧ o ≠ 2 ∧ o ≠ 3 ∧ o ≠ 4 ∧ o ≠ 5 ∧ o ≠ 6 ∧ r = 0 ∧ er = 2)
def RefRes (o : Int) (a b r : Nat) (er : Int) : Prop :=
  (o = 1 ∧ ArithRes .add a b r ∧ er = 0) ∨ (o = 2 ∧ ArithRes .sub a b r ∧ er = 0) ∨ (o = 3 ∧ ArithRes .mul a b r ∧ er = 0) ∨ (o = 4 ∧ ArithRes .quo a b r ∧ er = 0) ∨
  ((o = 5 ∨ o = 6) ∧ r = (bif nanB a || nanB b then nanC else bif firstB a b == (o == 5) then a else b) ∧ er = 0) ∨
  (o ≠ 1 ∧ o ≠ 2 ∧ o ≠ 3 ∧ o ≠ 4 ∧ o ≠ 5 ∧ o ≠ 6 ∧ r = 0 ∧ er = 2)
theorem ext15 (b : Nat) (w : World) : (callFunc 15 #[.float .f64 b]).run Tryz.prog w = .ok (.value (.int .u64 b)) w := by kernel_rfl
theorem ext5 (n : Int) (w : World) : (callFunc 5 #[.int .u64 n]).run Tryz.prog w = .ok (.value (.float .f64 n.toNat)) w := by kernel_rfl
set_option maxRecDepth 100000 in
theorem read_nan (s x : Nat) (hs : s < 2) (hx : x < 2 ^ 52 - 1) : nanB (s * 2 ^ 63 + 0x7ff0000000000000 + 1 + x) = true := by
  have h : Ieee.double.read (s * 2 ^ 63 + 0x7ff0000000000000 + 1 + x) = .nan ((s * 2 ^ 63 + 0x7ff0000000000000 + 1 + x) / 2 ^ 63 % 2 == 1) (1 + x) := by
    have e1 : Ieee.double.signWeight = 2 ^ 63 := rfl
    have e2 : Ieee.double.binade = 2 ^ 52 := rfl
    have e3 : Ieee.double.infRung = 0x7ff0000000000000 := rfl
    unfold Ieee.Format.read
    simp only [e1, e2, e3]
    have e4 : (s * 2 ^ 63 + 0x7ff0000000000000 + 1 + x) % 2 ^ 63 = 0x7ff0000000000000 + 1 + x := by omega
    rw [e4, if_neg (by omega), if_neg (by omega), if_neg (by omega), show 0x7ff0000000000000 + 1 + x - 0x7ff0000000000000 = 1 + x by omega]
  have : ord (s * 2 ^ 63 + 0x7ff0000000000000 + 1 + x) (s * 2 ^ 63 + 0x7ff0000000000000 + 1 + x) = none := by
    show Ieee.Datum.order (Ieee.double.read _) (Ieee.double.read _) = none
    rw [h]
    rfl
  simp [nanB, this]
theorem arith (op : BinOp) (hop : op = .add ∨ op = .sub ∨ op = .mul ∨ op = .quo) (t : TypeId) (a b : Nat) : ∃ (R : World → Nat) (W : World → World),
    (∀ w, (binOp op t (.float .f64 a) (.float .f64 b)).run Tryz.prog w = .ok (.float .f64 (R w)) (W w)) ∧ (∀ w, Below w.heap.size w (W w)) ∧ ∀ w, ArithRes op a b (R w) := by
  cases h : floatBits op .f64 a b with
  | some z => exact ⟨fun _ => z, id, fun w => run_float_arith w op t .f64 a b z h, fun w => .refl _ _, fun w => by simp [ArithRes, h]⟩
  | none =>
    refine ⟨fun w => Question.cut (.nanBits .f64 a b) (w.tape w.drawn (.nanBits .f64 a b)), fun w => { w with drawn := w.drawn + 1 }, fun w => ?_, fun w => ⟨rfl, rfl, rfl, Nat.le_refl _, fun _ _ => rfl⟩, fun w => ?_⟩
    · unfold floatBits at h
      rcases hop with rfl | rfl | rfl | rfl <;> simp only at h <;> simp [binOp, Op.floatArith, h, choose, Sem.run, Question.forced]
    · simp only [ArithRes, h]
      simp only [Question.cut]
      exact read_nan _ _ (Nat.mod_lt _ (by decide)) (Nat.mod_lt _ (by decide))
set_option maxRecDepth 100000 in
theorem same_calls (a b : Nat) (w : World) : Calls Tryz.prog 10 #[.float .f64 a, .float .f64 b] w fun e w' => e = .returned (.bool (sameB a b)) ∧ w' = w := by
  have e15 := ext15
  go_enter Tryz.func10, Tryz.ntmps10
  go_wp2
  all_goals go_ret
  all_goals refine ⟨?_, rfl⟩
  all_goals show Ending.returned (Value.bool _) = _
  all_goals congr 2
  all_goals simp_all [sameB, nanB, ord, bne, beqO, beqI]
theorem isnan_calls (a : Nat) (w : World) : Calls Tryz.prog 21 #[.float .f64 a] w fun e w' => e = .returned (.bool (nanB a)) ∧ w' = w := by
  go_enter Tryz.func21, Tryz.ntmps21
  go_wp2
  go_ret
  refine ⟨?_, rfl⟩
  show Ending.returned (Value.bool _) = _
  congr 2
  simp [nanB, ord, bne, beqO]
theorem nan_calls (w : World) : Calls Tryz.prog 14 #[] w fun e w' => e = .returned (.float .f64 nanC) ∧ w' = w := by
  have e5 := fun w => ext5 9221120237041090561 w
  have e : Int.toNat 9221120237041090561 = nanC := rfl
  rw [e] at e5
  clear e
  generalize nanC = N at e5 ⊢
  go_enter Tryz.func14, Tryz.ntmps14
  go_wp2
  go_ret
  exact ⟨rfl, rfl⟩
theorem sign_calls (a : Nat) (w : World) : Calls Tryz.prog 19 #[.float .f64 a] w fun e w' => e = .returned (.bool (sgB a)) ∧ w' = w := by
  have e15 := ext15
  go_enter Tryz.func19, Tryz.ntmps19
  go_wp2
  go_ret
  exact ⟨rfl, rfl⟩
set_option maxRecDepth 100000 in
theorem least_calls (a b : Nat) (w : World) : Calls Tryz.prog 13 #[.float .f64 a, .float .f64 b] w fun e w' => e = .returned (.float .f64 (leastB a b)) ∧ w' = w := by
  generalize hL : leastB a b = L
  unfold leastB at hL
  go_enter Tryz.func13, Tryz.ntmps13
  go_wp2_with (first
    | (go_at_call 21; refine (isnan_calls _ _).mono ?_; rintro e w' ⟨rfl, rfl⟩)
    | (go_at_call 14; refine (nan_calls _).mono ?_; rintro e w' ⟨rfl, rfl⟩)
    | (go_at_call 19; refine (sign_calls _ _).mono ?_; rintro e w' ⟨rfl, rfl⟩))
  all_goals go_ret
  all_goals refine ⟨?_, rfl⟩
  all_goals show Ending.returned (Value.float .f64 _) = _
  all_goals rw [← hL]
  all_goals congr 2
  all_goals simp_all [eqB, ltB, ord, bne, beqO, beqI]
def isRes (o : Int) (a b : Nat) (r : Bool) (er : Int) : Prop :=
  (o = 1 ∧ r = ltB a b ∧ er = 0) ∨ (o = 2 ∧ r = (ltB a b || eqB a b) ∧ er = 0) ∨ (o = 3 ∧ r = eqB a b ∧ er = 0) ∨ (o ≠ 1 ∧ o ≠ 2 ∧ o ≠ 3 ∧ r = false ∧ er = 2)
set_option maxRecDepth 100000 in
theorem is_calls (o : Int) (a b : Nat) (w : World) : Calls Tryz.prog 8 #[.int .u8 o, .float .f64 a, .float .f64 b] w fun e w' => ∃ r er, e = .returned (.tuple #[.bool r, .int .i64 er]) ∧ w' = w ∧ isRes o a b r er := by
  go_enter Tryz.func8, Tryz.ntmps8
  go_wp2
  all_goals go_ret2
  all_goals refine ⟨_, _, rfl, rfl, ?_⟩
  all_goals simp_all [isRes, ltB, eqB, ord, bne, beqO, beqI]
set_option maxRecDepth 100000 in
theorem refIs_calls (o : Int) (a b : Nat) (w : World) : Calls Tryz.prog 9 #[.int .u8 o, .float .f64 a, .float .f64 b] w fun e w' => ∃ r er, e = .returned (.tuple #[.bool r, .int .i64 er]) ∧ w' = w ∧ isRes o a b r er := by
  go_enter Tryz.func9, Tryz.ntmps9
  go_wp2
  all_goals go_ret2
  all_goals refine ⟨_, _, rfl, rfl, ?_⟩
  all_goals simp_all [isRes, ltB, eqB, ord, bne, beqO, beqI]
theorem negRun (x : Nat) (w : World) : (Op.unary .neg (.float .f64 x)).run Tryz.prog w = .ok (.float .f64 (neg x)) w := by kernel_rfl
set_option maxRecDepth 100000 in
theorem do_calls (o : Int) (a b : Nat) (w : World) : Calls Tryz.prog 6 #[.int .u8 o, .float .f64 a, .float .f64 b] w fun e w' => ∃ r er, e = .returned (.tuple #[.float .f64 r, .int .i64 er]) ∧ Below w.heap.size w w' ∧ DoRes o a b r er := by
  obtain ⟨R1, W1, h1, b1, r1⟩ := arith .add (.inl rfl) 25 a b
  obtain ⟨R2, W2, h2, b2, r2⟩ := arith .sub (.inr (.inl rfl)) 25 a b
  obtain ⟨R3, W3, h3, b3, r3⟩ := arith .mul (.inr (.inr (.inl rfl))) 25 a b
  obtain ⟨R4, W4, h4, b4, r4⟩ := arith .quo (.inr (.inr (.inr rfl))) 25 a b
  have hneg : ∀ (x : Nat) (w : World), (Op.unary .neg (.float .f64 x)).run Tryz.prog w = .ok (.float .f64 (neg x)) w := fun x w => negRun x w
  go_enter Tryz.func6, Tryz.ntmps6
  go_wp2_with (go_at_call 13; refine (least_calls _ _ _).mono ?_; rintro e w' ⟨rfl, rfl⟩)
  all_goals go_ret2
  all_goals simp only [beqI, decide_eq_true_eq, decide_eq_false_iff_not] at *
  · exact ⟨_, _, rfl, b1 _, .inl ⟨by assumption, r1 _, rfl⟩⟩
  · exact ⟨_, _, rfl, b2 _, .inr (.inl ⟨by assumption, r2 _, rfl⟩)⟩
  · exact ⟨_, _, rfl, b3 _, .inr (.inr (.inl ⟨by assumption, r3 _, rfl⟩))⟩
  · exact ⟨_, _, rfl, b4 _, .inr (.inr (.inr (.inl ⟨by assumption, r4 _, rfl⟩)))⟩
  · exact ⟨_, _, rfl, .refl _ _, .inr (.inr (.inr (.inr (.inl ⟨by assumption, rfl, rfl⟩))))⟩
  · exact ⟨_, _, rfl, .refl _ _, .inr (.inr (.inr (.inr (.inr (.inl ⟨by assumption, rfl, rfl⟩)))))⟩
  · exact ⟨_, _, rfl, .refl _ _, .inr (.inr (.inr (.inr (.inr (.inr ⟨by assumption, by assumption, by assumption, by assumption, by assumption, by assumption, rfl, rfl⟩)))))⟩
set_option maxRecDepth 100000 in
theorem refDo_calls (o : Int) (a b : Nat) (w : World) : Calls Tryz.prog 7 #[.int .u8 o, .float .f64 a, .float .f64 b] w fun e w' => ∃ r er, e = .returned (.tuple #[.float .f64 r, .int .i64 er]) ∧ Below w.heap.size w w' ∧ RefRes o a b r er := by
  obtain ⟨R1, W1, h1, b1, r1⟩ := arith .add (.inl rfl) 25 a b
  obtain ⟨R2, W2, h2, b2, r2⟩ := arith .sub (.inr (.inl rfl)) 25 a b
  obtain ⟨R3, W3, h3, b3, r3⟩ := arith .mul (.inr (.inr (.inl rfl))) 25 a b
  obtain ⟨R4, W4, h4, b4, r4⟩ := arith .quo (.inr (.inr (.inr rfl))) 25 a b
  have e15 := ext15
  go_enter Tryz.func7, Tryz.ntmps7
  go_wp2_with (go_at_call 14; refine (nan_calls _).mono ?_; rintro e w' ⟨rfl, rfl⟩)
  all_goals go_ret2
  all_goals simp only [beqI, beqO, bne, decide_eq_true_eq, decide_eq_false_iff_not] at *
  all_goals first
    | exact ⟨_, _, rfl, b1 _, .inl ⟨by assumption, r1 _, rfl⟩⟩
    | exact ⟨_, _, rfl, b2 _, .inr (.inl ⟨by assumption, r2 _, rfl⟩)⟩
    | exact ⟨_, _, rfl, b3 _, .inr (.inr (.inl ⟨by assumption, r3 _, rfl⟩))⟩
    | exact ⟨_, _, rfl, b4 _, .inr (.inr (.inr (.inl ⟨by assumption, r4 _, rfl⟩)))⟩
    | exact ⟨_, _, rfl, .refl _ _, .inr (.inr (.inr (.inr (.inr ⟨by assumption, by assumption, by assumption, by assumption, by assumption, by assumption, rfl, rfl⟩))))⟩
    | (refine ⟨_, _, rfl, .refl _ _, .inr (.inr (.inr (.inr (.inl ⟨by omega, ?_, rfl⟩))))⟩; clear h1 h2 h3 h4 b1 b2 b3 b4 r1 r2 r3 r4 e15; simp_all [nanB, firstB, ltB, eqB, ord, bne, beqO, beqI]; done)
end Go.Proofs.YtjcmbnpabkhcfaaGreatDoor
