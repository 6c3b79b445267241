/- The plain law: what num.Do gives is the same as what the document's Do gives. -/
import Derived.Test.YtjcmbnpabkhcfaaGreatDoorNumW
namespace Go.Proofs.YtjcmbnpabkhcfaaGreatDoor
open Go.RowKit
set_option linter.unusedVariables false
set_option linter.unusedSimpArgs false
theorem isRes_unique {o : Int} {a b : Nat} {r r' : Bool} {e e' : Int} (h : isRes o a b r e) (h' : isRes o a b r' e') : r = r' ∧ e = e' := by
  unfold isRes at h h'
  rcases h with ⟨h1, h2, h3⟩ | ⟨h1, h2, h3⟩ | ⟨h1, h2, h3⟩ | ⟨h1, h1', h1'', h2, h3⟩ <;> rcases h' with ⟨k1, k2, k3⟩ | ⟨k1, k2, k3⟩ | ⟨k1, k2, k3⟩ | ⟨k1, k1', k1'', k2, k3⟩ <;>
    first
      | exact ⟨h2.trans k2.symm, h3.trans k3.symm⟩
      | (exfalso; omega)
theorem sameB_self (a : Nat) : sameB a a = true := by
  unfold sameB
  cases nanB a <;> simp
theorem sameB_nan {a b : Nat} (h : nanB a = true) (h' : nanB b = true) : sameB a b = true := by simp [sameB, h, h']
theorem arith_same {op : BinOp} {a b x y : Nat} (h : ArithRes op a b x) (h' : ArithRes op a b y) : sameB x y = true := by
  unfold ArithRes at h h'
  split at h
  · rename_i z hz
    rw [hz] at h'
    simp only at h'
    subst h
    subst h'
    exact sameB_self _
  · rename_i hz
    rw [hz] at h'
    exact sameB_nan h h'
/-! Words -/
def neB (d : Ieee.Datum) : Bool := match d with
  | .nan .. => true
  | _ => false
theorem ord_read (a b : Nat) : ord a b = (Ieee.double.read a).order (Ieee.double.read b) := rfl
def sN (a : Nat) : Bool := a / 2 ^ 63 % 2 == 1
def rN (a : Nat) : Nat := a % 2 ^ 63
theorem read_eq (a : Nat) : Ieee.double.read a = if rN a < 2 ^ 52 then .number (sN a) (rN a) (-1074) else if rN a < 2047 * 2 ^ 52 then .number (sN a) (2 ^ 52 + rN a % 2 ^ 52) (-1074 + ((rN a / 2 ^ 52 - 1 : Nat) : Int)) else if rN a = 2047 * 2 ^ 52 then .infinity (sN a) else .nan (sN a) (rN a - 2047 * 2 ^ 52) := by
  rfl
/-- The magnitude of a finite word, in units of the least place. -/
def magN (r : Nat) : Nat := if r < 2 ^ 52 then r else (2 ^ 52 + r % 2 ^ 52) * 2 ^ (r / 2 ^ 52 - 1)
theorem magN_step (r : Nat) : magN r < magN (r + 1) := by
  unfold magN
  by_cases h : r + 1 < 2 ^ 52
  · rw [if_pos h, if_pos (by omega)]
    omega
  · rw [if_neg h]
    by_cases h2 : r < 2 ^ 52
    · obtain rfl : r = 2 ^ 52 - 1 := by omega
      rw [if_pos h2]
      decide
    · rw [if_neg h2]
      by_cases h3 : r % 2 ^ 52 + 1 < 2 ^ 52
      · have e1 : (r + 1) / 2 ^ 52 = r / 2 ^ 52 := by omega
        have e2 : (r + 1) % 2 ^ 52 = r % 2 ^ 52 + 1 := by omega
        rw [e1, e2]
        exact Nat.mul_lt_mul_of_pos_right (by omega) (Nat.two_pow_pos _)
      · have e1 : (r + 1) / 2 ^ 52 = r / 2 ^ 52 + 1 := by omega
        have e2 : (r + 1) % 2 ^ 52 = 0 := by omega
        have e3 : r / 2 ^ 52 + 1 - 1 = (r / 2 ^ 52 - 1) + 1 := by omega
        rw [e1, e2, e3, Nat.add_zero]
        generalize r / 2 ^ 52 - 1 = q
        have e4 : 2 ^ (q + 1) = 2 ^ q * 2 := Nat.pow_succ _ _
        rw [e4, Nat.mul_comm (2 ^ q) 2, ← Nat.mul_assoc]
        exact Nat.mul_lt_mul_of_pos_right (by omega) (Nat.two_pow_pos _)
theorem magN_add (r : Nat) : ∀ d, magN r < magN (r + (d + 1))
  | 0 => magN_step r
  | d + 1 => Nat.lt_trans (magN_add r d) (magN_step _)
theorem magN_lt {r s : Nat} (h : r < s) : magN r < magN s := by
  have := magN_add r (s - r - 1)
  rwa [show r + (s - r - 1 + 1) = s by omega] at this
theorem magN_zero : magN 0 = 0 := by decide
def key (a : Nat) : Int := if sN a then -(rN a : Int) else rN a
theorem signed_scale (s : Bool) (m k l : Nat) : Ieee.signed s m (k + l) = Ieee.signed s m k * ((2 ^ l : Nat) : Int) := by
  unfold Ieee.signed
  simp only [Nat.shiftLeft_eq, Nat.pow_add]
  cases s <;> simp [Int.natCast_mul, Int.mul_assoc, Int.neg_mul]
theorem compare_of_iff {x y x' y' : Int} (h1 : x < y ↔ x' < y') (h2 : y < x ↔ y' < x') : compare x y = compare x' y' := by
  simp only [Int.compare_eq_ite_lt, h1, h2]
theorem mul_lt_iff {x y : Int} {c : Nat} (hc : 0 < c) : x * (c : Int) < y * (c : Int) ↔ x < y := by
  constructor
  · intro h
    exact Int.lt_of_mul_lt_mul_right h (by omega)
  · intro h
    exact Int.mul_lt_mul_of_pos_right h (by omega)
theorem order_num (s t : Bool) (m n i j : Nat) : Ieee.Datum.order (.number s m (-1074 + (i : Int))) (.number t n (-1074 + (j : Int))) = some (compare (Ieee.signed s m i) (Ieee.signed t n j)) := by
  simp only [Ieee.Datum.order]
  congr 1
  have e1 : ((-1074 + (i : Int)) - min (-1074 + (i : Int)) (-1074 + (j : Int))).toNat = i - min i j := by omega
  have e2 : ((-1074 + (j : Int)) - min (-1074 + (i : Int)) (-1074 + (j : Int))).toNat = j - min i j := by omega
  rw [e1, e2]
  have h1 := signed_scale s m (i - min i j) (min i j)
  have h2 := signed_scale t n (j - min i j) (min i j)
  rw [show i - min i j + min i j = i by omega] at h1
  rw [show j - min i j + min i j = j by omega] at h2
  rw [h1, h2]
  exact (compare_of_iff (mul_lt_iff (Nat.two_pow_pos _)) (mul_lt_iff (Nat.two_pow_pos _))).symm
theorem read_fin {a : Nat} (h : rN a < 2047 * 2 ^ 52) : ∃ m d : Nat, Ieee.double.read a = .number (sN a) m (-1074 + (d : Int)) ∧ Ieee.signed (sN a) m d = if sN a then -(magN (rN a) : Int) else magN (rN a) := by
  rw [read_eq]
  by_cases h1 : rN a < 2 ^ 52
  · rw [if_pos h1]
    refine ⟨rN a, 0, rfl, ?_⟩
    simp only [Ieee.signed, magN, if_pos h1, Nat.shiftLeft_zero]
  · rw [if_neg h1, if_pos h]
    refine ⟨_, _, rfl, ?_⟩
    simp only [Ieee.signed, magN, if_neg h1, Nat.shiftLeft_eq]
theorem read_inf {a : Nat} (h : rN a = 2047 * 2 ^ 52) : Ieee.double.read a = .infinity (sN a) := by
  rw [read_eq, if_neg (by omega), if_neg (by omega), if_pos h]
theorem read_nan' {a : Nat} (h : 2047 * 2 ^ 52 < rN a) : Ieee.double.read a = .nan (sN a) (rN a - 2047 * 2 ^ 52) := by
  rw [read_eq, if_neg (by omega), if_neg (by omega), if_neg (by omega)]
theorem ord_key {a b : Nat} (ha : rN a ≤ 2047 * 2 ^ 52) (hb : rN b ≤ 2047 * 2 ^ 52) : ord a b = some (compare (key a) (key b)) := by
  rw [ord_read]
  rcases Nat.lt_or_eq_of_le ha with ha | ha
  · obtain ⟨m, d, h1, h2⟩ := read_fin ha
    rcases Nat.lt_or_eq_of_le hb with hb | hb
    · obtain ⟨n, e, h3, h4⟩ := read_fin hb
      rw [h1, h3, order_num, h2, h4]
      congr 1
      have hm := @magN_lt (rN a) (rN b)
      have hm' := @magN_lt (rN b) (rN a)
      have h0a := @magN_lt 0 (rN a)
      have h0b := @magN_lt 0 (rN b)
      rw [magN_zero] at h0a h0b
      have heq : rN a = rN b → magN (rN a) = magN (rN b) := fun h => by rw [h]
      have hza : rN a = 0 → magN (rN a) = 0 := fun h => by rw [h]; exact magN_zero
      have hzb : rN b = 0 → magN (rN b) = 0 := fun h => by rw [h]; exact magN_zero
      unfold key
      generalize magN (rN a) = x at *
      generalize magN (rN b) = y at *
      generalize rN a = p at *
      generalize rN b = q at *
      apply compare_of_iff <;> (split <;> split <;> constructor <;> intro h <;> (rcases Nat.lt_trichotomy p q with h5 | h5 | h5 <;> (try have := hm h5) <;> (try have := hm' h5) <;> (try have := heq h5) <;> (by_cases hp : p = 0 <;> by_cases hq : q = 0 <;> (try have := hza hp) <;> (try have := hzb hq) <;> (try have := h0a (by omega)) <;> (try have := h0b (by omega)) <;> omega)))
    · rw [h1, read_inf hb]
      simp only [Ieee.Datum.order]
      congr 1
      unfold key
      cases sN b <;> cases sN a <;> simp only [if_true, if_false, Bool.false_eq_true] <;> symm <;> first
        | exact Int.compare_eq_lt.2 (by omega)
        | exact Int.compare_eq_gt.2 (by omega)
  · rw [read_inf ha]
    rcases Nat.lt_or_eq_of_le hb with hb | hb
    · obtain ⟨n, e, h3, h4⟩ := read_fin hb
      rw [h3]
      simp only [Ieee.Datum.order]
      congr 1
      unfold key
      cases sN b <;> cases sN a <;> simp only [if_true, if_false, Bool.false_eq_true] <;> symm <;> first
        | exact Int.compare_eq_lt.2 (by omega)
        | exact Int.compare_eq_gt.2 (by omega)
    · rw [read_inf hb]
      simp only [Ieee.Datum.order]
      congr 1
      unfold key
      rw [ha, hb]
      cases sN b <;> cases sN a <;> decide
theorem ord_nan {a b : Nat} (h : 2047 * 2 ^ 52 < rN a ∨ 2047 * 2 ^ 52 < rN b) : ord a b = none := by
  rw [ord_read]
  rcases h with h | h
  · rw [read_nan' h]
    rfl
  · rw [read_nan' h]
    cases Ieee.double.read a <;> rfl
theorem nanB_iff (a : Nat) : nanB a = decide (2047 * 2 ^ 52 < rN a) := by
  unfold nanB
  by_cases h : 2047 * 2 ^ 52 < rN a
  · rw [ord_nan (.inl h)]
    simp [h]
  · rw [ord_key (by omega) (by omega), Int.compare_eq_eq.2 rfl]
    simp [h]
theorem ltB_iff {a b : Nat} (ha : nanB a = false) (hb : nanB b = false) : ltB a b = decide (key a < key b) := by
  rw [nanB_iff, decide_eq_false_iff_not] at ha hb
  unfold ltB
  rw [ord_key (by omega) (by omega)]
  simp [Int.compare_eq_lt]
theorem eqB_iff {a b : Nat} (ha : nanB a = false) (hb : nanB b = false) : eqB a b = decide (key a = key b) := by
  rw [nanB_iff, decide_eq_false_iff_not] at ha hb
  unfold eqB
  rw [ord_key (by omega) (by omega)]
  simp [Int.compare_eq_eq]
end Go.Proofs.YtjcmbnpabkhcfaaGreatDoor
