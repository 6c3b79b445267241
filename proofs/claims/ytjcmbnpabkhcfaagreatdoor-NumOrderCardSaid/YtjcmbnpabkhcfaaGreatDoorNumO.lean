/- The law NumOrder, walked. -/
import Derived.Test.YtjcmbnpabkhcfaaGreatDoorNumD
namespace Go.Proofs.YtjcmbnpabkhcfaaGreatDoor
open Go.RowKit
set_option linter.unusedVariables false
set_option linter.unusedSimpArgs false
def nsB (a b : Nat) : Bool := decide ((a : Int) = b) || (nanB a && nanB b)
theorem nsB_self (a : Nat) : nsB a a = true := by simp [nsB]
theorem nsB_nan {a b : Nat} (h : nanB a = true) (h' : nanB b = true) : nsB a b = true := by simp [nsB, h, h']
set_option maxRecDepth 100000 in
theorem numsame_calls (a b : Nat) (w : World) : Calls Tryz.prog 12 #[.float .f64 a, .float .f64 b] w fun e w' => e = .returned (.bool (nsB a b)) ∧ w' = w := by
  have e15 := ext15
  go_enter Tryz.func12, Tryz.ntmps12
  go_wp2_with (go_at_call 21; refine (isnan_calls _ _).mono ?_; rintro e w' ⟨rfl, rfl⟩)
  all_goals go_ret
  all_goals refine ⟨?_, rfl⟩
  all_goals show Ending.returned (Value.bool _) = _
  all_goals congr 2
  all_goals simp_all [nsB, beqI]
theorem is_less_calls (a b : Nat) (w : World) : Calls Tryz.prog 8 #[.int .u8 1, .float .f64 a, .float .f64 b] w fun e w' => e = .returned (.tuple #[.bool (ltB a b), .int .i64 0]) ∧ w' = w := by
  refine (is_calls 1 a b w).mono fun e w' ⟨r, er, h1, h2, h3⟩ => ?_
  have h4 : isRes 1 a b (ltB a b) 0 := .inl ⟨rfl, rfl, rfl⟩
  obtain ⟨rfl, rfl⟩ := isRes_unique h3 h4
  exact ⟨h1, h2⟩
theorem is_most_calls (a b : Nat) (w : World) : Calls Tryz.prog 8 #[.int .u8 2, .float .f64 a, .float .f64 b] w fun e w' => e = .returned (.tuple #[.bool (ltB a b || eqB a b), .int .i64 0]) ∧ w' = w := by
  refine (is_calls 2 a b w).mono fun e w' ⟨r, er, h1, h2, h3⟩ => ?_
  have h4 : isRes 2 a b (ltB a b || eqB a b) 0 := .inr (.inl ⟨rfl, rfl, rfl⟩)
  obtain ⟨rfl, rfl⟩ := isRes_unique h3 h4
  exact ⟨h1, h2⟩
theorem do_add_calls (a b : Nat) (w : World) : Calls Tryz.prog 6 #[.int .u8 1, .float .f64 a, .float .f64 b] w fun e w' => ∃ r, e = .returned (.tuple #[.float .f64 r, .int .i64 0]) ∧ Below w.heap.size w w' ∧ ArithRes .add a b r := by
  refine (do_calls 1 a b w).mono fun e w' ⟨r, er, h1, h2, h3⟩ => ?_
  unfold DoRes at h3
  have : ArithRes .add a b r ∧ er = 0 := by
    rcases h3 with h | h | h | h | h | h | h <;> first | exact h.2 | (exfalso; omega)
  obtain ⟨h4, rfl⟩ := this
  exact ⟨r, h1, h2, h4⟩
theorem do_mul_calls (a b : Nat) (w : World) : Calls Tryz.prog 6 #[.int .u8 3, .float .f64 a, .float .f64 b] w fun e w' => ∃ r, e = .returned (.tuple #[.float .f64 r, .int .i64 0]) ∧ Below w.heap.size w w' ∧ ArithRes .mul a b r := by
  refine (do_calls 3 a b w).mono fun e w' ⟨r, er, h1, h2, h3⟩ => ?_
  unfold DoRes at h3
  have : ArithRes .mul a b r ∧ er = 0 := by
    rcases h3 with h | h | h | h | h | h | h <;> first | (exfalso; omega) | exact h.2
  obtain ⟨h4, rfl⟩ := this
  exact ⟨r, h1, h2, h4⟩
theorem do_min_calls (a b : Nat) (w : World) : Calls Tryz.prog 6 #[.int .u8 5, .float .f64 a, .float .f64 b] w fun e w' => e = .returned (.tuple #[.float .f64 (leastB a b), .int .i64 0]) ∧ Below w.heap.size w w' := by
  refine (do_calls 5 a b w).mono fun e w' ⟨r, er, h1, h2, h3⟩ => ?_
  unfold DoRes at h3
  have : r = leastB a b ∧ er = 0 := by
    rcases h3 with h | h | h | h | h | h | h <;> first | (exfalso; omega) | exact h.2
  obtain ⟨rfl, rfl⟩ := this
  exact ⟨h1, h2⟩
theorem do_max_calls (a b : Nat) (w : World) : Calls Tryz.prog 6 #[.int .u8 6, .float .f64 a, .float .f64 b] w fun e w' => e = .returned (.tuple #[.float .f64 (neg (leastB (neg a) (neg b))), .int .i64 0]) ∧ Below w.heap.size w w' := by
  refine (do_calls 6 a b w).mono fun e w' ⟨r, er, h1, h2, h3⟩ => ?_
  unfold DoRes at h3
  have : r = neg (leastB (neg a) (neg b)) ∧ er = 0 := by
    rcases h3 with h | h | h | h | h | h | h <;> first | (exfalso; omega) | exact h.2
  obtain ⟨rfl, rfl⟩ := this
  exact ⟨h1, h2⟩
theorem sum_comm (d e : Ieee.Datum) : d.sum e = e.sum d := by
  cases d with
  | nan s t => cases e <;> rfl
  | infinity s =>
    cases e with
    | nan s t => rfl
    | infinity t =>
      simp only [Ieee.Datum.sum]
      by_cases h : s = t
      · subst h
        rfl
      · rw [if_neg h, if_neg (fun e => h e.symm)]
    | number t n j => rfl
  | number s m i =>
    cases e with
    | nan s t => rfl
    | infinity t => rfl
    | number t n j =>
      simp only [Ieee.Datum.sum]
      rw [Int.min_comm i j, Int.add_comm (Ieee.signed s m _), Bool.and_comm s t]
theorem product_comm (d e : Ieee.Datum) : d.product e = e.product d := by
  cases d with
  | nan s t => cases e <;> rfl
  | infinity s =>
    cases e with
    | nan s t => rfl
    | infinity t =>
      simp only [Ieee.Datum.product]
      rw [Bool.xor_comm]
    | number t n j =>
      simp only [Ieee.Datum.product]
  | number s m i =>
    cases e with
    | nan s t => rfl
    | infinity t =>
      simp only [Ieee.Datum.product]
    | number t n j =>
      simp only [Ieee.Datum.product]
      rw [Bool.xor_comm, Nat.mul_comm, Int.add_comm]
theorem ns_of_arith {op : BinOp} {a b x y : Nat} (hc : floatBits op .f64 a b = floatBits op .f64 b a) (h : ArithRes op a b x) (h' : ArithRes op b a y) : nsB x y = true := by
  unfold ArithRes at h h'
  rw [← hc] at h'
  split at h
  · rename_i z hz
    rw [hz] at h'
    simp only at h'
    subst h
    subst h'
    exact nsB_self _
  · rename_i hz
    rw [hz] at h'
    exact nsB_nan h h'
theorem add_same {a b x y : Nat} (h : ArithRes .add a b x) (h' : ArithRes .add b a y) : nsB x y = true :=
  ns_of_arith (by
    show Option.map _ (Ieee.Datum.sum _ _) = Option.map _ (Ieee.Datum.sum _ _)
    rw [sum_comm]) h h'
theorem mul_same {a b x y : Nat} (h : ArithRes .mul a b x) (h' : ArithRes .mul b a y) : nsB x y = true :=
  ns_of_arith (by
    show Option.map _ (Ieee.Datum.product _ _) = Option.map _ (Ieee.Datum.product _ _)
    rw [product_comm]) h h'
/-- How two numbers stand to each other. -/
theorem cases_of {a b : Nat} (ha : a < 2 ^ 64) (hb : b < 2 ^ 64) :
    (ord a a = some .eq ∧ ord b b = some .eq ∧ (∃ l, ltB a b = l ∧ (ltB b a || eqB b a) = !l) ∧ ((leastB a b = a ∧ neg (leastB (neg a) (neg b)) = b) ∨ (leastB a b = b ∧ neg (leastB (neg a) (neg b)) = a))) ∨
    (((ord a a = none ∧ (ord b b = none ∨ ord b b = some .eq)) ∨ (ord a a = some .eq ∧ ord b b = none)) ∧ ltB a b = false ∧ (ltB b a || eqB b a) = false) := by
  have oa : ord a a = if nanB a then none else some .eq := by
    rw [nanB_iff]
    by_cases h : 2047 * 2 ^ 52 < rN a
    · rw [ord_nan (.inl h)]
      simp [h]
    · rw [ord_key (by omega) (by omega), Int.compare_eq_eq.2 rfl]
      simp [h]
  have ob : ord b b = if nanB b then none else some .eq := by
    rw [nanB_iff]
    by_cases h : 2047 * 2 ^ 52 < rN b
    · rw [ord_nan (.inl h)]
      simp [h]
    · rw [ord_key (by omega) (by omega), Int.compare_eq_eq.2 rfl]
      simp [h]
  have hnan : nanB a = true ∨ nanB b = true → ord a b = none ∧ ord b a = none := fun h => by
    rw [nanB_iff, nanB_iff, decide_eq_true_eq, decide_eq_true_eq] at h
    exact ⟨ord_nan h, ord_nan h.symm⟩
  cases na : nanB a with
  | true =>
    right
    obtain ⟨h1, h2⟩ := hnan (.inl na)
    rw [na] at oa
    refine ⟨.inl ⟨by simpa using oa, ?_⟩, by simp [ltB, h1], by simp [ltB, eqB, h2]⟩
    rw [ob]
    cases nanB b <;> simp
  | false =>
    rw [na] at oa
    cases nb : nanB b with
    | true =>
      right
      obtain ⟨h1, h2⟩ := hnan (.inr nb)
      rw [nb] at ob
      exact ⟨.inr ⟨by simpa using oa, by simpa using ob⟩, by simp [ltB, h1], by simp [ltB, eqB, h2]⟩
    | false =>
      left
      rw [nb] at ob
      refine ⟨by simpa using oa, by simpa using ob, ⟨_, rfl, ?_⟩, ?_⟩
      · rw [ltB_iff na nb, ltB_iff nb na, eqB_iff nb na]
        rcases Int.lt_trichotomy (key a) (key b) with h | h | h
        · have h1 : ¬ key b < key a := by omega
          have h2 : ¬ key b = key a := by omega
          simp [h, h1, h2]
        · simp [h]
        · have h1 : ¬ key a < key b := by omega
          simp [h, h1]
      · rw [least_eq ha na nb, least_eq (neg_lt ha) (by rw [nanB_neg]; exact na) (by rw [nanB_neg]; exact nb)]
        simp only [key_neg, sN_neg]
        by_cases h0 : key a = 0 ∧ key b = 0
        · rw [h0.1, h0.2]
          cases sN a <;> simp [neg_neg]
        · have e0 : (decide (key a = 0) && decide (key b = 0)) = false := by
            rw [Bool.and_eq_false_iff]
            simp only [decide_eq_false_iff_not]
            omega
          have e1 : (decide (-key a = 0) && decide (-key b = 0)) = false := by
            rw [Bool.and_eq_false_iff]
            simp only [decide_eq_false_iff_not]
            omega
          rw [e0, e1]
          simp only [cond_false]
          rcases Int.lt_trichotomy (key a) (key b) with hk | hk | hk
          · have h7 : ¬ -key a < -key b := by omega
            simp [hk, h7, neg_neg]
          · have := key_inj ha hb hk (by omega)
            subst this
            simp [neg_neg]
          · have h7 : -key a < -key b := by omega
            have h9 : ¬ key a < key b := by omega
            simp [h7, h9, neg_neg]
end Go.Proofs.YtjcmbnpabkhcfaaGreatDoor
