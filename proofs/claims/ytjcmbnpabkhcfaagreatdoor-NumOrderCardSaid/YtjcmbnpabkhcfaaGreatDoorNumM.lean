/- What num.Do gives is the same as what the document's Do gives. -/
import Derived.Test.YtjcmbnpabkhcfaaGreatDoorNumL
namespace Go.Proofs.YtjcmbnpabkhcfaaGreatDoor
open Go.RowKit
set_option linter.unusedVariables false
set_option linter.unusedSimpArgs false
theorem neg_eq (a : Nat) : neg a = a ^^^ 2 ^ 63 := rfl
theorem rN_neg (a : Nat) : rN (neg a) = rN a := by
  rw [neg_eq]
  unfold rN
  rw [Nat.xor_mod_two_pow]
  simp
theorem sN_neg (a : Nat) : sN (neg a) = !sN a := by
  rw [neg_eq]
  unfold sN
  rw [Nat.xor_div_two_pow, Nat.div_self (Nat.two_pow_pos _)]
  generalize a / 2 ^ 63 = q
  have h : (q ^^^ 1) % 2 = (q % 2) ^^^ 1 := Nat.xor_mod_two_pow (n := 1)
  rw [h]
  rcases Nat.mod_two_eq_zero_or_one q with h | h <;> rw [h] <;> rfl
theorem key_neg (a : Nat) : key (neg a) = -key a := by
  unfold key
  rw [rN_neg, sN_neg]
  cases sN a <;> simp
theorem nanB_neg (a : Nat) : nanB (neg a) = nanB a := by rw [nanB_iff, nanB_iff, rN_neg]
theorem neg_neg (a : Nat) : neg (neg a) = a := by
  rw [neg_eq, neg_eq, Nat.xor_assoc, Nat.xor_self, Nat.xor_zero]
theorem neg_lt {a : Nat} (h : a < 2 ^ 64) : neg a < 2 ^ 64 := by
  rw [neg_eq]
  exact Nat.xor_lt_two_pow h (by decide)
theorem sN_iff {a : Nat} (h : a < 2 ^ 64) : sN a = decide (2 ^ 63 ≤ a) := by
  unfold sN
  rw [Bool.eq_iff_iff]
  simp only [beq_iff_eq, decide_eq_true_eq]
  omega
theorem sgB_eq {a : Nat} (h : a < 2 ^ 64) : sgB a = sN a := by
  rw [sN_iff h]
  unfold sgB wrap64
  rw [Bool.eq_iff_iff]
  simp only [decide_eq_true_eq]
  omega
theorem div63 {a : Nat} (h : a < 2 ^ 64) : decide ((a : Int) / 9223372036854775808 = 1) = sN a := by
  rw [sN_iff h, Bool.eq_iff_iff]
  simp only [decide_eq_true_eq]
  omega
theorem nan_0 : nanB 0 = false := by decide +kernel
theorem key_0 : key 0 = 0 := by decide +kernel
theorem key_inj {a b : Nat} (ha : a < 2 ^ 64) (hb : b < 2 ^ 64) (h : key a = key b) (h0 : key a ≠ 0) : a = b := by
  unfold key at h h0
  rw [sN_iff ha, sN_iff hb] at h
  rw [sN_iff ha] at h0
  unfold rN at h h0
  by_cases h1 : 2 ^ 63 ≤ a <;> by_cases h2 : 2 ^ 63 ≤ b <;> simp only [h1, h2, decide_true, decide_false, if_true, if_false, Bool.false_eq_true] at h h0 <;> omega
theorem nan_C : nanB nanC = true := by decide +kernel
theorem first_eq {a b : Nat} (ha : a < 2 ^ 64) (na : nanB a = false) (nb : nanB b = false) : firstB a b = (decide (key a < key b) || (decide (key a = key b) && sN a)) := by
  unfold firstB
  rw [ltB_iff na nb, eqB_iff na nb, div63 ha]
theorem least_eq {a b : Nat} (ha : a < 2 ^ 64) (na : nanB a = false) (nb : nanB b = false) : leastB a b = bif decide (key a = 0) && decide (key b = 0) then (bif sN a then a else b) else bif decide (key a < key b) then a else b := by
  unfold leastB
  rw [na, nb, eqB_iff na nan_0, eqB_iff nb nan_0, ltB_iff na nb, sgB_eq ha, key_0]
  rfl
theorem law_same {o : Int} {a b x y : Nat} {e f : Int} (ha : a < 2 ^ 64) (hb : b < 2 ^ 64) (h : DoRes o a b x e) (h' : RefRes o a b y f) : sameB x y = true ∧ e = f := by
  unfold DoRes at h
  unfold RefRes at h'
  rcases h with ⟨h1, h2, h3⟩ | ⟨h1, h2, h3⟩ | ⟨h1, h2, h3⟩ | ⟨h1, h2, h3⟩ | ⟨h1, h2, h3⟩ | ⟨h1, h2, h3⟩ | ⟨h1, h1', h1'', h4, h5, h6, h2, h3⟩ <;>
  rcases h' with ⟨k1, k2, k3⟩ | ⟨k1, k2, k3⟩ | ⟨k1, k2, k3⟩ | ⟨k1, k2, k3⟩ | ⟨k1, k2, k3⟩ | ⟨k1, k1', k1'', k4, k5, k6, k2, k3⟩ <;>
    first
      | (exfalso; omega)
      | exact ⟨arith_same h2 k2, h3.trans k3.symm⟩
      | skip
  · refine ⟨?_, h3.trans k3.symm⟩
    subst h1
    rw [show ((5 : Int) == 5) = true from rfl] at k2
    subst h2
    subst k2
    cases na : nanB a with
    | true => simp [leastB, na, sameB_self]
    | false =>
      cases nb : nanB b with
      | true => simp [leastB, na, nb, sameB_self]
      | false =>
        rw [least_eq ha na nb, first_eq ha na nb]
        simp only [Bool.or_self, cond_false]
        by_cases h0 : key a = 0 ∧ key b = 0
        · rw [h0.1, h0.2]
          cases sN a <;> simp [sameB_self]
        · have e0 : (decide (key a = 0) && decide (key b = 0)) = false := by
            rw [Bool.and_eq_false_iff]
            simp only [decide_eq_false_iff_not]
            omega
          rw [e0]
          simp only [cond_false]
          rcases Int.lt_trichotomy (key a) (key b) with hk | hk | hk
          · simp [hk, sameB_self]
          · have := key_inj ha hb hk (by omega)
            subst this
            cases sN a <;> simp [sameB_self]
          · have h7 : ¬ key a < key b := by omega
            have h8 : ¬ key a = key b := by omega
            simp [h7, h8, sameB_self]
  · refine ⟨?_, h3.trans k3.symm⟩
    subst h1
    rw [show ((6 : Int) == 5) = false from rfl] at k2
    subst h2
    subst k2
    cases na : nanB a with
    | true => simp only [leastB, nanB_neg, na, Bool.true_or, cond_true]; exact sameB_nan (by rw [nanB_neg]; exact nan_C) nan_C
    | false =>
      cases nb : nanB b with
      | true => simp only [leastB, nanB_neg, na, nb, Bool.or_true, cond_true]; exact sameB_nan (by rw [nanB_neg]; exact nan_C) nan_C
      | false =>
        rw [least_eq (neg_lt ha) (by rw [nanB_neg]; exact na) (by rw [nanB_neg]; exact nb), first_eq ha na nb]
        simp only [Bool.or_self, cond_false, key_neg, sN_neg]
        by_cases h0 : key a = 0 ∧ key b = 0
        · rw [h0.1, h0.2]
          cases sN a <;> simp [sameB_self, neg_neg]
        · have e0 : (decide (-key a = 0) && decide (-key b = 0)) = false := by
            rw [Bool.and_eq_false_iff]
            simp only [decide_eq_false_iff_not]
            omega
          rw [e0]
          simp only [cond_false]
          rcases Int.lt_trichotomy (key a) (key b) with hk | hk | hk
          · have h7 : ¬ -key a < -key b := by omega
            simp only [hk, h7, decide_true, decide_false, Bool.true_or, cond_false]
            simp [sameB_self, neg_neg]
          · have := key_inj ha hb hk (by omega)
            subst this
            cases sN a <;> simp [sameB_self, neg_neg]
          · have h7 : -key a < -key b := by omega
            have h8 : ¬ key a = key b := by omega
            have h9 : ¬ key a < key b := by omega
            simp [h7, h8, h9, sameB_self, neg_neg]
  · exact ⟨by rw [h2, k2]; exact sameB_self _, h3.trans k3.symm⟩
end Go.Proofs.YtjcmbnpabkhcfaaGreatDoor
