/- The law NumDoes, walked. -/
import Derived.Test.YtjcmbnpabkhcfaaGreatDoorNumM
namespace Go.Proofs.YtjcmbnpabkhcfaaGreatDoor
open Go.RowKit
set_option linter.unusedVariables false
set_option linter.unusedSimpArgs false
theorem EnvL.below {W W' : World} (h : EnvL W) (hb : Below W.heap.size W W') : EnvL W' := by
  have hs := env_size h
  refine ⟨fun p hp => ?_, ?_⟩
  · have h15 : p.1 < 15 := by
      have := List.all_eq_true.1 tabs_ok p hp
      simp only [Bool.and_eq_true, decide_eq_true_eq] at this
      exact this.1.1
    intro j v hv
    rw [World.cell?_of_block (hb.block p.1 (by omega))]
    exact h.tab p hp j v hv
  · obtain ⟨a, s, h1, h2⟩ := h.err
    have hlt := (block_of_cell h2).1
    refine ⟨a, s, fun j v hv => ?_, ?_⟩
    · rw [World.cell?_of_block (hb.block 2 (by omega))]
      exact h1 j v hv
    · obtain ⟨b, o, sp⟩ := a
      rw [World.cell?_of_block (hb.block b hlt)]
      exact h2
set_option maxRecDepth 100000 in
theorem does_walk (o r n m : Int) (W : World) (hn : n.toNat < 2 ^ 64) (hm : m.toNat < 2 ^ 64) (he : EnvL W) :
    Calls Tryz.prog 3 #[.int .u8 o, .int .u8 r, .int .u64 n, .int .u64 m] W fun e W' => e = .returned (.bool true) ∧ Below W.heap.size W W' := by
  have e5 : ∀ (n : Int) (w : World), (callFunc 5 #[.int .u64 n]).run Tryz.prog w = .ok (.value (.float .f64 n.toNat)) w := ext5
  obtain ⟨e5n, e5m⟩ := (⟨e5 n, e5 m⟩ : (∀ w : World, (callFunc 5 #[.int .u64 n]).run Tryz.prog w = .ok (.value (.float .f64 n.toNat)) w) ∧ ∀ w : World, (callFunc 5 #[.int .u64 m]).run Tryz.prog w = .ok (.value (.float .f64 m.toNat)) w)
  clear e5
  generalize n.toNat = a at *
  generalize m.toNat = b at *
  go_enter Tryz.func3, Tryz.ntmps3
  go_wp2_with (first
    | (go_at_call 6; refine (do_calls _ _ _ _).mono ?_; rintro e w1 ⟨x, ex, rfl, B1, d1⟩)
    | (go_at_call 7; refine (refDo_calls _ _ _ _).mono ?_; rintro e w2 ⟨y, ey, rfl, B2, d2⟩; obtain ⟨hs, rfl⟩ := law_same hn hm d1 d2)
    | (go_at_call 8; refine (is_calls _ _ _ _).mono ?_; rintro e w3 ⟨p, ep, rfl, rfl, d3⟩)
    | (go_at_call 9; refine (refIs_calls _ _ _ _).mono ?_; rintro e w4 ⟨q, eq, rfl, rfl, d4⟩; obtain ⟨rfl, rfl⟩ := isRes_unique d3 d4)
    | (go_at_call 10; refine (same_calls _ _ _).mono ?_; rintro e w5 ⟨rfl, rfl⟩; rw [hs])
    | (go_at_call 11; refine (lives_calls ((he.below B1).below B2)).mono ?_; rintro e w6 ⟨rfl, B6⟩))
  all_goals go_ret
  all_goals exact ⟨rfl, (B1.trans (B2.mono B1.size)).trans (B6.mono (Nat.le_trans B1.size B2.size))⟩
end Go.Proofs.YtjcmbnpabkhcfaaGreatDoor
