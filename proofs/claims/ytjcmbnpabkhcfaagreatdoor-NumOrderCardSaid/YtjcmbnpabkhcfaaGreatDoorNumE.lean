/- The law NumOrder, walked. -/
import Derived.Test.YtjcmbnpabkhcfaaGreatDoorNumO
namespace Go.Proofs.YtjcmbnpabkhcfaaGreatDoor
open Go.RowKit
set_option linter.unusedVariables false
set_option linter.unusedSimpArgs false
set_option maxHeartbeats 4000000 in
set_option maxRecDepth 100000 in
theorem order_walk (n m : Int) (W : World) (hn : n.toNat < 2 ^ 64) (hm : m.toNat < 2 ^ 64) (he : EnvL W) :
    Calls Tryz.prog 4 #[.int .u64 n, .int .u64 m] W fun e W' => e = .returned (.bool true) ∧ Below W.heap.size W W' := by
  have e5 : ∀ (n : Int) (w : World), (callFunc 5 #[.int .u64 n]).run Tryz.prog w = .ok (.value (.float .f64 n.toNat)) w := ext5
  obtain ⟨e5n, e5m⟩ := (⟨e5 n, e5 m⟩ : (∀ w : World, (callFunc 5 #[.int .u64 n]).run Tryz.prog w = .ok (.value (.float .f64 n.toNat)) w) ∧ ∀ w : World, (callFunc 5 #[.int .u64 m]).run Tryz.prog w = .ok (.value (.float .f64 m.toNat)) w)
  clear e5
  generalize n.toNat = a at *
  generalize m.toNat = b at *
  have hc := cases_of hn hm
  have hL : ∀ w : World, Calls Tryz.prog 6 #[.int .u8 5, .float .f64 a, .float .f64 b] w fun e w' => e = .returned (.tuple #[.float .f64 (leastB a b), .int .i64 0]) ∧ Below w.heap.size w w' := do_min_calls a b
  have hM : ∀ w : World, Calls Tryz.prog 6 #[.int .u8 6, .float .f64 a, .float .f64 b] w fun e w' => e = .returned (.tuple #[.float .f64 (neg (leastB (neg a) (neg b))), .int .i64 0]) ∧ Below w.heap.size w w' := do_max_calls a b
  have hl : ∀ w : World, Calls Tryz.prog 8 #[.int .u8 1, .float .f64 a, .float .f64 b] w fun e w' => e = .returned (.tuple #[.bool (ltB a b), .int .i64 0]) ∧ w' = w := is_less_calls a b
  have hm : ∀ w : World, Calls Tryz.prog 8 #[.int .u8 2, .float .f64 b, .float .f64 a] w fun e w' => e = .returned (.tuple #[.bool (ltB b a || eqB b a), .int .i64 0]) ∧ w' = w := is_most_calls b a
  have core : ∀ (l t : Bool) (L M : Nat), ltB a b = l → (ltB b a || eqB b a) = t → leastB a b = L → neg (leastB (neg a) (neg b)) = M →
      (∀ w : World, Calls Tryz.prog 6 #[.int .u8 5, .float .f64 a, .float .f64 b] w fun e w' => e = .returned (.tuple #[.float .f64 L, .int .i64 0]) ∧ Below w.heap.size w w') ∧
      (∀ w : World, Calls Tryz.prog 6 #[.int .u8 6, .float .f64 a, .float .f64 b] w fun e w' => e = .returned (.tuple #[.float .f64 M, .int .i64 0]) ∧ Below w.heap.size w w') ∧
      (∀ w : World, Calls Tryz.prog 8 #[.int .u8 1, .float .f64 a, .float .f64 b] w fun e w' => e = .returned (.tuple #[.bool l, .int .i64 0]) ∧ w' = w) ∧
      (∀ w : World, Calls Tryz.prog 8 #[.int .u8 2, .float .f64 b, .float .f64 a] w fun e w' => e = .returned (.tuple #[.bool t, .int .i64 0]) ∧ w' = w) := by
    rintro _ _ _ _ rfl rfl rfl rfl
    exact ⟨hL, hM, hl, hm⟩
  clear hL hM hl hm
  have walk : ∀ (l t : Bool) (L M : Nat) (oa ob : Option Ordering), FloatKind.f64.format.order a a = oa → FloatKind.f64.format.order b b = ob →
      (∀ w : World, Calls Tryz.prog 6 #[.int .u8 5, .float .f64 a, .float .f64 b] w fun e w' => e = .returned (.tuple #[.float .f64 L, .int .i64 0]) ∧ Below w.heap.size w w') →
      (∀ w : World, Calls Tryz.prog 6 #[.int .u8 6, .float .f64 a, .float .f64 b] w fun e w' => e = .returned (.tuple #[.float .f64 M, .int .i64 0]) ∧ Below w.heap.size w w') →
      (∀ w : World, Calls Tryz.prog 8 #[.int .u8 1, .float .f64 a, .float .f64 b] w fun e w' => e = .returned (.tuple #[.bool l, .int .i64 0]) ∧ w' = w) →
      (∀ w : World, Calls Tryz.prog 8 #[.int .u8 2, .float .f64 b, .float .f64 a] w fun e w' => e = .returned (.tuple #[.bool t, .int .i64 0]) ∧ w' = w) →
      (oa = none ∨ oa = some .eq) → (ob = none ∨ ob = some .eq) → (l == t && (oa == some .eq && ob == some .eq)) = false → (!(oa == some .eq && ob == some .eq) && (l || t)) = false →
      ((nsB L a && nsB M b) || (nsB L b && nsB M a) || !(oa == some .eq) || !(ob == some .eq)) = true →
      Calls Tryz.prog 4 #[.int .u64 n, .int .u64 m] W fun e W' => e = .returned (.bool true) ∧ Below W.heap.size W W' := by
    intro l t L M oa ob ha hb hL hM hl hm hoa hob c1 c2 c3
    have hA := fun w => do_add_calls a b w
    have hA' := fun w => do_add_calls b a w
    have hU := fun w => do_mul_calls a b w
    have hU' := fun w => do_mul_calls b a w
    generalize hs1 : nsB L a = s1 at c3
    generalize hs2 : nsB M b = s2 at c3
    generalize hs3 : nsB L b = s3 at c3
    generalize hs4 : nsB M a = s4 at c3
    have hS1 : ∀ w : World, Calls Tryz.prog 12 #[.float .f64 L, .float .f64 a] w fun e w' => e = .returned (.bool s1) ∧ w' = w := fun w => by rw [← hs1]; exact numsame_calls L a w
    have hS2 : ∀ w : World, Calls Tryz.prog 12 #[.float .f64 M, .float .f64 b] w fun e w' => e = .returned (.bool s2) ∧ w' = w := fun w => by rw [← hs2]; exact numsame_calls M b w
    have hS3 : ∀ w : World, Calls Tryz.prog 12 #[.float .f64 L, .float .f64 b] w fun e w' => e = .returned (.bool s3) ∧ w' = w := fun w => by rw [← hs3]; exact numsame_calls L b w
    have hS4 : ∀ w : World, Calls Tryz.prog 12 #[.float .f64 M, .float .f64 a] w fun e w' => e = .returned (.bool s4) ∧ w' = w := fun w => by rw [← hs4]; exact numsame_calls M a w
    have hSS : ∀ (x y : Nat) (w : World), nsB x y = true → Calls Tryz.prog 12 #[.float .f64 x, .float .f64 y] w fun e w' => e = .returned (.bool true) ∧ w' = w := fun x y w h => by rw [← h]; exact numsame_calls x y w
    clear hs1 hs2 hs3 hs4
    clear hc core hn
    rcases hoa with rfl | rfl <;> rcases hob with rfl | rfl <;> cases l <;> cases t <;> first
      | exact absurd c1 (by decide)
      | exact absurd c2 (by decide)
      | skip
    all_goals clear c1 c2
    all_goals go_enter Tryz.func4, Tryz.ntmps4
    all_goals (go_wp2_with (first
      | (go_at_call 8; with_reducible refine (hl _).mono ?_; rintro e w1 ⟨rfl, rfl⟩)
      | (go_at_call 8; with_reducible refine (hm _).mono ?_; rintro e w1 ⟨rfl, rfl⟩)
      | (go_at_call 6; with_reducible refine (hA _).mono ?_; rintro e w1 ⟨x, rfl, B1, r1⟩)
      | (go_at_call 6; with_reducible refine (hA' _).mono ?_; rintro e w2 ⟨y, rfl, B2, r2⟩; have hxy := add_same r1 r2; have C2 := B1.trans (B2.mono B1.size))
      | (go_at_call 6; with_reducible refine (hU _).mono ?_; rintro e w3 ⟨p, rfl, B3, r3⟩; have C3 := C2.trans (B3.mono C2.size))
      | (go_at_call 6; with_reducible refine (hU' _).mono ?_; rintro e w4 ⟨q, rfl, B4, r4⟩; have hpq := mul_same r3 r4; have C4 := C3.trans (B4.mono C3.size))
      | (go_at_call 6; with_reducible refine (hL _).mono ?_; rintro e w5 ⟨rfl, B5⟩; have C5 := C4.trans (B5.mono C4.size))
      | (go_at_call 6; with_reducible refine (hM _).mono ?_; rintro e w6 ⟨rfl, B6⟩; have C6 := C5.trans (B6.mono C5.size))
      | (go_at_call 12; with_reducible refine (hS1 _).mono ?_; rintro e w7 ⟨rfl, rfl⟩)
      | (go_at_call 12; with_reducible refine (hS2 _).mono ?_; rintro e w7 ⟨rfl, rfl⟩)
      | (go_at_call 12; with_reducible refine (hS3 _).mono ?_; rintro e w7 ⟨rfl, rfl⟩)
      | (go_at_call 12; with_reducible refine (hS4 _).mono ?_; rintro e w7 ⟨rfl, rfl⟩)
      | (go_at_call 12; with_reducible refine (hSS _ _ _ hxy).mono ?_; rintro e w7 ⟨rfl, rfl⟩)
      | (go_at_call 12; with_reducible refine (hSS _ _ _ hpq).mono ?_; rintro e w7 ⟨rfl, rfl⟩)
      | (go_at_call 11; with_reducible refine (lives_calls (he.below C6)).mono ?_; rintro e w8 ⟨rfl, B8⟩; have C8 := C6.trans (B8.mono C6.size))))
    all_goals clear hL hM hl hm hA hA' hU hU' hS1 hS2 hS3 hS4 hSS
    all_goals first
      | (go_ret; exact ⟨rfl, C8⟩)
      | (go_ret; refine ⟨?_, C8⟩; simp_all; done)
      | (exfalso; simp_all; done)
  rcases hc with ⟨oa, ob, ⟨l, h1, h2⟩, h3⟩ | ⟨h0, h1, h2⟩
  · obtain ⟨k1, k2, k3, k4⟩ := core _ _ _ _ h1 h2 rfl rfl
    refine walk _ _ _ _ _ _ oa ob k1 k2 k3 k4 (.inr rfl) (.inr rfl) (by cases l <;> rfl) rfl ?_
    rcases h3 with ⟨h4, h5⟩ | ⟨h4, h5⟩
    · rw [h4, h5, nsB_self, nsB_self]
      simp
    · rw [h4, h5, nsB_self, nsB_self]
      simp
  · obtain ⟨k1, k2, k3, k4⟩ := core _ _ _ _ h1 h2 rfl rfl
    rcases h0 with ⟨oa, ob | ob⟩ | ⟨oa, ob⟩
    · exact walk _ _ _ _ _ _ oa ob k1 k2 k3 k4 (by simp) (by simp) rfl rfl (by simp)
    · exact walk _ _ _ _ _ _ oa ob k1 k2 k3 k4 (by simp) (by simp) rfl rfl (by simp)
    · exact walk _ _ _ _ _ _ oa ob k1 k2 k3 k4 (by simp) (by simp) rfl rfl (by simp)
end Go.Proofs.YtjcmbnpabkhcfaaGreatDoor
