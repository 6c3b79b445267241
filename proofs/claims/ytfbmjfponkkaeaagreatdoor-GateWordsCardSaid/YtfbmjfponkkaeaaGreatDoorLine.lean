import Derived.Test.YtfbmjfponkkaeaaGreatDoorNumbA
import Derived.Test.YtfbmjfponkkaeaaGreatDoorNumbB
import Derived.Test.YtfbmjfponkkaeaaGreatDoorNamed
import Derived.Test.YtfbmjfponkkaeaaGreatDoorShelf
namespace Go.Proofs.YtfbmjfponkkaeaaGreatDoor.Num
open Go.RowKit Go.Proofs.YtfbmjfponkkaeaaGreatDoorW.PrintWords Go.Proofs.YtfbmjfponkkaeaaGreatDoor.Pr
set_option linter.unusedVariables false
set_option linter.unusedSimpArgs false

/-- What the string functions ask of the world. -/
structure Env (w : World) : Prop where
  ml : ∃ m, w.cell? ⟨4, 0, none⟩ = some (.int .i64 m)
  sp : Lib.TabIs Tryz.prog w "strings.asciiSpace" .u8 Lib.asciiSpaceTab
  p10 : Lib.TabIs Tryz.prog w "internal/strconv.uint64pow10" .u64 Lib.pow10Tab
theorem tab_below {n : String} {g : Nat} {k : IntKind} {zs : List Int} {w w' : World} (hg : Tryz.prog.globalNamed n = some g) (h : Lib.TabIs Tryz.prog w n k zs) (hb : Below w.heap.size w w') : Lib.TabIs Tryz.prog w' n k zs := by
  unfold Lib.TabIs World.var? at h ⊢
  rw [hg] at h ⊢
  simp only [Option.bind_some] at h ⊢
  have hlt : g < w.heap.size := by
    rcases Nat.lt_or_ge g w.heap.size with h' | h'
    · exact h'
    · rw [Array.getElem?_eq_none h'] at h; cases h
  rw [hb.block g hlt]
  exact h
theorem Env.below {w w' : World} (h : Env w) (hb : Below w.heap.size w w') : Env w' :=
  ⟨h.ml.imp fun _ hm => (hb.cell (p := ⟨4, 0, none⟩) (World.block_lt_of_cell? w _ hm)).trans hm, tab_below (g := 0) (by kernel_rfl) h.sp hb, tab_below (g := 9) (by kernel_rfl) h.p10 hb⟩
theorem below_1 (w : World) (o : Obj) : Below w.heap.size w (w.alloc o) := below_alloc (Below.refl _ _) o
theorem own_below {w w' : World} {base n : Nat} {e : TypeId} {size : Nat} {v : Value} {xs : List Value} (h : w.ownsRow base e size v n xs) (hb : Below w.heap.size w w') : w'.ownsRow base e size v n xs :=
  h.kept (row := none) ⟨hb.os, hb.tape, hb.output, hb.size, fun k hk _ => hb.block k hk⟩ (by cases v.ownBlock <;> simp)
theorem own_shape {w : World} {base n : Nat} {e : TypeId} {size : Nat} {v : Value} {xs : List Value} (h : w.ownsRow base e size v n xs) (hn : n ≠ 0) : ∃ g c, v = .slice (some ⟨g, 0, none⟩) n c ∧ base ≤ g := by
  rcases h.2 with ⟨_, h0⟩ | ⟨g, cap, cur, rfl, hb, _⟩
  · exact (hn h0).elim
  · exact ⟨g, cap, rfl, hb⟩


set_option maxHeartbeats 4000000 in
set_option maxRecDepth 100000 in
theorem line_0_0 (w : World) (s p1 q1 p2 q2 f0 : ByteArray) (is2 : Bool) (op  r0 r1 r2 r3 : Int) (hE : Env w)
    (hC1 : ∀ W, Env W → Calls Tryz.prog 89 #[.string s, .string ⟨#[58, 32]⟩] W fun e w' => e = .returned (.tuple #[.string p1, .string q1, .bool false]) ∧ Below W.heap.size W w')
    (hC2 : ∀ W, Env W → Calls Tryz.prog 89 #[.string s, .string ⟨#[32, 45, 62, 32]⟩] W fun e w' => e = .returned (.tuple #[.string p2, .string q2, .bool is2]) ∧ Below W.heap.size W w')
    (hF : ∀ W, Env W → Calls Tryz.prog 90 #[.string p2] W fun e w' => e = .returned (.slice (some ⟨W.heap.size, 0, none⟩) 1 1) ∧ w' = W.alloc (.cells #[.string f0] 9 (0, 0)))
    (hN : ∀ W, Calls Tryz.prog 91 #[.string f0] W fun e w' => e = .returned (.tuple #[.int .u8 op, .bool true]) ∧ Below W.heap.size W w')
    
    (hM : ∀ (W : World) (B b : Nat) (a t : ByteArray), W.heap[b]? = some (.cells #[.string a, .int .u8 op, .int .u8 0, .int .u8 0, .int .u8 0, .int .i32 0, .string t] 65 (0, 0)) → B ≤ b → 
      Calls Tryz.prog 93 #[.pointer (some ⟨b, 1, none⟩), .slice none 0 0] W fun e w' => e = .returned (.tuple #[]) ∧ w'.heap[b]? = some (.cells #[.string a, .int .u8 op, .int .u8 r0, .int .u8 r1, .int .u8 r2, .int .i32 r3, .string t] 65 (0, 0)) ∧ Below B W w') :
    Calls Tryz.prog 48 #[.string s] w fun e w' => e = .returned (.agg #[.string ⟨#[]⟩, .int .u8 op, .int .u8 r0, .int .u8 r1, .int .u8 r2, .int .i32 r3, .string q2]) ∧ Below w.heap.size w w' := by
  have HE := Aside0.mk hE
  have HC1 := Aside0.mk hC1
  have HC2 := Aside0.mk hC2
  have HF := Aside0.mk hF
  have HN := Aside0.mk hN
  have HM := Aside0.mk hM
  have HBa := Aside0.mk (below_alloc (below_alloc (Below.refl w.heap.size w) (.cells #[.string ⟨#[]⟩, .int .u8 0, .int .u8 0, .int .u8 0, .int .u8 0, .int .i32 0, .string ⟨#[]⟩] 65 (0, 0))) (.cells #[.string ⟨#[]⟩, .int .u8 0, .int .u8 0, .int .u8 0, .int .u8 0, .int .i32 0, .string ⟨#[]⟩] 65 (0, 0)))
  have BR := Aside0.mk (blk_alloc (blk_new w (.cells #[.string ⟨#[]⟩, .int .u8 0, .int .u8 0, .int .u8 0, .int .u8 0, .int .i32 0, .string ⟨#[]⟩] 65 (0, 0))) (.cells #[.string ⟨#[]⟩, .int .u8 0, .int .u8 0, .int .u8 0, .int .u8 0, .int .i32 0, .string ⟨#[]⟩] 65 (0, 0)))
  have bl0 := blk_new (w.alloc (.cells #[.string ⟨#[]⟩, .int .u8 0, .int .u8 0, .int .u8 0, .int .u8 0, .int .i32 0, .string ⟨#[]⟩] 65 (0, 0))) (.cells #[.string ⟨#[]⟩, .int .u8 0, .int .u8 0, .int .u8 0, .int .u8 0, .int .i32 0, .string ⟨#[]⟩] 65 (0, 0))
  rw [World.size_alloc] at bl0
  have BL := Aside0.mk bl0
  clear hE hC1 hC2 hF hN  hM bl0
  have hu65 := Tryz.underlying65
  go_enter Tryz.func48, Tryz.ntmps48
  go_wp2_with fail
  refine (HC1.out _ (HE.out.below (by simpa using HBa.out))).mono ?_
  rintro e w1 ⟨rfl, hb1⟩
  have HB1 := Aside0.mk (below_step HBa.out hb1)
  replace BR := Aside0.mk (blk_below BR.out hb1)
  replace BL := Aside0.mk (blk_below BL.out hb1)
  clear hb1 HBa
  go_wp2_with fail
  refine (HC2.out _ (HE.out.below HB1.out)).mono ?_
  rintro e w2 ⟨rfl, hb2⟩
  have HB2 := Aside0.mk (below_step HB1.out hb2)
  replace BR := Aside0.mk (blk_below BR.out hb2)
  replace BL := Aside0.mk (blk_below BL.out hb2)
  clear hb2 HB1
  have k6 := blk_cell BL.out 6
  have g6 := blk_frozen BL.out 6
  simp only [List.getElem?_toArray, List.getElem?_cons_zero, List.getElem?_cons_succ] at k6
  go_wp2_with fail
  replace BR := Aside0.mk (blk_far BR.out (p := ⟨w.heap.size + 1, 6, none⟩) (by simp) (.string q2))
  replace BL := Aside0.mk (blk_put BL.out 6 (.string q2) (cs' := #[.string ⟨#[]⟩, .int .u8 0, .int .u8 0, .int .u8 0, .int .u8 0, .int .i32 0, .string q2]) rfl)
  replace HB2 := Aside0.mk (below_set HB2.out (g := w.heap.size + 1) (j := 6) (v := .string q2) (by omega))
  clear k6 g6
  generalize w2.setCell ⟨w.heap.size + 1, 6, none⟩ (.string q2) = w3 at *
  refine (HF.out _ (HE.out.below HB2.out)).mono ?_
  rintro e w4 ⟨rfl, hw4⟩
  have FF := Aside0.mk (hw4 ▸ blk_new w3 (.cells #[.string f0] 9 (0, 0)))
  have hb4 : Below w3.heap.size w3 w4 := hw4 ▸ below_1 w3 _
  replace BR := Aside0.mk (blk_below BR.out hb4)
  replace BL := Aside0.mk (blk_below BL.out hb4)
  have HB4 := Aside0.mk (below_step HB2.out hb4)
  have F3 : w.heap.size + 1 < w3.heap.size := by
    have := blk_lt BL.out
    rw [hw4] at this
    have h5 := HB2.out.size
    have h6 := blk_ne FF.out BL.out (by decide)
    simp at this; omega
  have FZ := Aside0.mk F3
  generalize w3.heap.size = F at *
  clear hb4 HB2 hw4 F3
  have z0 := blk_cell FF.out 0
  simp only [List.getElem?_toArray, List.getElem?_cons_zero, List.getElem?_cons_succ] at z0
  go_wp2_with fail
  refine (HN.out _).mono ?_
  rintro e w5 ⟨rfl, hb5⟩
  replace BR := Aside0.mk (blk_below BR.out hb5)
  replace BL := Aside0.mk (blk_below BL.out hb5)
  replace FF := Aside0.mk (blk_below FF.out hb5)
  have HB5 := Aside0.mk (below_step HB4.out hb5)
  clear hb5 HB4 z0
  have k1 := blk_cell BL.out 1
  have g1 := blk_frozen BL.out 1
  simp only [List.getElem?_toArray, List.getElem?_cons_zero, List.getElem?_cons_succ] at k1
  go_wp2_with fail
  replace BR := Aside0.mk (blk_far BR.out (p := ⟨w.heap.size + 1, 1, none⟩) (by simp) (.int .u8 op))
  replace FF := Aside0.mk (blk_far FF.out (p := ⟨w.heap.size + 1, 1, none⟩) (by have := FZ.out; simp; omega) (.int .u8 op))
  replace BL := Aside0.mk (blk_put BL.out 1 (.int .u8 op) (cs' := #[.string ⟨#[]⟩, .int .u8 op, .int .u8 0, .int .u8 0, .int .u8 0, .int .i32 0, .string q2]) rfl)
  replace HB5 := Aside0.mk (below_set HB5.out (g := w.heap.size + 1) (j := 1) (v := .int .u8 op) (by omega))
  clear k1 g1
  generalize w5.setCell ⟨w.heap.size + 1, 1, none⟩ (.int .u8 op) = w6 at *
  have HO := Aside0.mk (World.ownsRow_nil w6 w6.heap.size 3 1)
  have hNB := Nat.le_refl w6.heap.size
  have BN := Aside0.mk (blk_lt BL.out)
  have FN := Aside0.mk (blk_lt FF.out)
  generalize hNs : w6.heap.size = NB at HO BN FN
  rw [hNs] at hNB
  have HNB := Aside0.mk (Nat.le_of_eq hNs.symm)
  clear hNB hNs
  refine wp_loop_rounds 1 ?_
  rw [rounds_succ]
  go_wp2_with fail
  refine (HM.out _ (w.heap.size + 1) (w.heap.size + 1) _ _ BL.out (Nat.le_refl _)).mono ?_
  rintro e w9 ⟨rfl, hbl, hb9⟩
  replace BR := Aside0.mk ((hb9.block _ (by omega)).trans BR.out)
  replace BL := Aside0.mk hbl
  replace HB5 := Aside0.mk (HB5.out.trans (blw_leA hb9 (by omega)))
  clear hbl hb9 
  have l0 := blk_cell BL.out 0
  have r0_ := blk_cell BR.out 0
  have s0_ := blk_frozen BR.out 0
  have l1 := blk_cell BL.out 1
  have r1_ := blk_cell BR.out 1
  have s1_ := blk_frozen BR.out 1
  have l2 := blk_cell BL.out 2
  have r2_ := blk_cell BR.out 2
  have s2_ := blk_frozen BR.out 2
  have l3 := blk_cell BL.out 3
  have r3_ := blk_cell BR.out 3
  have s3_ := blk_frozen BR.out 3
  have l4 := blk_cell BL.out 4
  have r4_ := blk_cell BR.out 4
  have s4_ := blk_frozen BR.out 4
  have l5 := blk_cell BL.out 5
  have r5_ := blk_cell BR.out 5
  have s5_ := blk_frozen BR.out 5
  have l6 := blk_cell BL.out 6
  have r6_ := blk_cell BR.out 6
  have s6_ := blk_frozen BR.out 6
  simp only [List.getElem?_toArray, List.getElem?_cons_zero, List.getElem?_cons_succ] at l0 l1 l2 l3 l4 l5 l6 r0_ r1_ r2_ r3_ r4_ r5_ r6_
  go_wp2_with fail
  refine bodyPost_ret (results_cell_row rfl _ _ w.heap.size 65 #[.string ⟨#[]⟩, .int .u8 op, .int .u8 r0, .int .u8 r1, .int .u8 r2, .int .i32 r3, .string q2] (0, 0) _ rfl (blk_put (blk_put (blk_put (blk_put (blk_put (blk_put (blk_put BR.out 0 (.string ⟨#[]⟩) (cs' := #[.string ⟨#[]⟩, .int .u8 0, .int .u8 0, .int .u8 0, .int .u8 0, .int .i32 0, .string ⟨#[]⟩]) rfl) 1 (.int .u8 op) (cs' := #[.string ⟨#[]⟩, .int .u8 op, .int .u8 0, .int .u8 0, .int .u8 0, .int .i32 0, .string ⟨#[]⟩]) rfl) 2 (.int .u8 r0) (cs' := #[.string ⟨#[]⟩, .int .u8 op, .int .u8 r0, .int .u8 0, .int .u8 0, .int .i32 0, .string ⟨#[]⟩]) rfl) 3 (.int .u8 r1) (cs' := #[.string ⟨#[]⟩, .int .u8 op, .int .u8 r0, .int .u8 r1, .int .u8 0, .int .i32 0, .string ⟨#[]⟩]) rfl) 4 (.int .u8 r2) (cs' := #[.string ⟨#[]⟩, .int .u8 op, .int .u8 r0, .int .u8 r1, .int .u8 r2, .int .i32 0, .string ⟨#[]⟩]) rfl) 5 (.int .i32 r3) (cs' := #[.string ⟨#[]⟩, .int .u8 op, .int .u8 r0, .int .u8 r1, .int .u8 r2, .int .i32 r3, .string ⟨#[]⟩]) rfl) 6 (.string q2) (cs' := #[.string ⟨#[]⟩, .int .u8 op, .int .u8 r0, .int .u8 r1, .int .u8 r2, .int .i32 r3, .string q2]) rfl) hu65 rfl (by kernel_rfl)) rfl ⟨rfl, (below_set (below_set (below_set (below_set (below_set (below_set (below_set HB5.out (Nat.le_refl _)) (Nat.le_refl _)) (Nat.le_refl _)) (Nat.le_refl _)) (Nat.le_refl _)) (Nat.le_refl _)) (Nat.le_refl _))⟩

set_option maxHeartbeats 4000000 in
set_option maxRecDepth 100000 in
theorem line_0_1 (w : World) (s p1 q1 p2 q2 f0 f1 : ByteArray) (is2 : Bool) (op x0 r0 r1 r2 r3 : Int) (hE : Env w)
    (hC1 : ∀ W, Env W → Calls Tryz.prog 89 #[.string s, .string ⟨#[58, 32]⟩] W fun e w' => e = .returned (.tuple #[.string p1, .string q1, .bool false]) ∧ Below W.heap.size W w')
    (hC2 : ∀ W, Env W → Calls Tryz.prog 89 #[.string s, .string ⟨#[32, 45, 62, 32]⟩] W fun e w' => e = .returned (.tuple #[.string p2, .string q2, .bool is2]) ∧ Below W.heap.size W w')
    (hF : ∀ W, Env W → Calls Tryz.prog 90 #[.string p2] W fun e w' => e = .returned (.slice (some ⟨W.heap.size, 0, none⟩) 2 2) ∧ w' = W.alloc (.cells #[.string f0, .string f1] 9 (0, 0)))
    (hN : ∀ W, Calls Tryz.prog 91 #[.string f0] W fun e w' => e = .returned (.tuple #[.int .u8 op, .bool true]) ∧ Below W.heap.size W w')
    (hA0 : ∀ W, Calls Tryz.prog 92 #[.string f1] W fun e w' => e = .returned (.tuple #[.int .i64 x0, .nilIface]) ∧ Below W.heap.size W w')
    (hM : ∀ (W : World) (B b c g : Nat) (a t : ByteArray), W.heap[b]? = some (.cells #[.string a, .int .u8 op, .int .u8 0, .int .u8 0, .int .u8 0, .int .i32 0, .string t] 65 (0, 0)) → B ≤ b → W.cell? ⟨g, 0, none⟩ = some (.int .i64 x0) → g ≠ b → 
      Calls Tryz.prog 93 #[.pointer (some ⟨b, 1, none⟩), .slice (some ⟨g, 0, none⟩) 1 c] W fun e w' => e = .returned (.tuple #[]) ∧ w'.heap[b]? = some (.cells #[.string a, .int .u8 op, .int .u8 r0, .int .u8 r1, .int .u8 r2, .int .i32 r3, .string t] 65 (0, 0)) ∧ Below B W w') :
    Calls Tryz.prog 48 #[.string s] w fun e w' => e = .returned (.agg #[.string ⟨#[]⟩, .int .u8 op, .int .u8 r0, .int .u8 r1, .int .u8 r2, .int .i32 r3, .string q2]) ∧ Below w.heap.size w w' := by
  have HE := Aside0.mk hE
  have HC1 := Aside0.mk hC1
  have HC2 := Aside0.mk hC2
  have HF := Aside0.mk hF
  have HN := Aside0.mk hN
  have HA0 := Aside0.mk hA0
  have HM := Aside0.mk hM
  have HBa := Aside0.mk (below_alloc (below_alloc (Below.refl w.heap.size w) (.cells #[.string ⟨#[]⟩, .int .u8 0, .int .u8 0, .int .u8 0, .int .u8 0, .int .i32 0, .string ⟨#[]⟩] 65 (0, 0))) (.cells #[.string ⟨#[]⟩, .int .u8 0, .int .u8 0, .int .u8 0, .int .u8 0, .int .i32 0, .string ⟨#[]⟩] 65 (0, 0)))
  have BR := Aside0.mk (blk_alloc (blk_new w (.cells #[.string ⟨#[]⟩, .int .u8 0, .int .u8 0, .int .u8 0, .int .u8 0, .int .i32 0, .string ⟨#[]⟩] 65 (0, 0))) (.cells #[.string ⟨#[]⟩, .int .u8 0, .int .u8 0, .int .u8 0, .int .u8 0, .int .i32 0, .string ⟨#[]⟩] 65 (0, 0)))
  have bl0 := blk_new (w.alloc (.cells #[.string ⟨#[]⟩, .int .u8 0, .int .u8 0, .int .u8 0, .int .u8 0, .int .i32 0, .string ⟨#[]⟩] 65 (0, 0))) (.cells #[.string ⟨#[]⟩, .int .u8 0, .int .u8 0, .int .u8 0, .int .u8 0, .int .i32 0, .string ⟨#[]⟩] 65 (0, 0))
  rw [World.size_alloc] at bl0
  have BL := Aside0.mk bl0
  clear hE hC1 hC2 hF hN hA0 hM bl0
  have hu65 := Tryz.underlying65
  go_enter Tryz.func48, Tryz.ntmps48
  go_wp2_with fail
  refine (HC1.out _ (HE.out.below (by simpa using HBa.out))).mono ?_
  rintro e w1 ⟨rfl, hb1⟩
  have HB1 := Aside0.mk (below_step HBa.out hb1)
  replace BR := Aside0.mk (blk_below BR.out hb1)
  replace BL := Aside0.mk (blk_below BL.out hb1)
  clear hb1 HBa
  go_wp2_with fail
  refine (HC2.out _ (HE.out.below HB1.out)).mono ?_
  rintro e w2 ⟨rfl, hb2⟩
  have HB2 := Aside0.mk (below_step HB1.out hb2)
  replace BR := Aside0.mk (blk_below BR.out hb2)
  replace BL := Aside0.mk (blk_below BL.out hb2)
  clear hb2 HB1
  have k6 := blk_cell BL.out 6
  have g6 := blk_frozen BL.out 6
  simp only [List.getElem?_toArray, List.getElem?_cons_zero, List.getElem?_cons_succ] at k6
  go_wp2_with fail
  replace BR := Aside0.mk (blk_far BR.out (p := ⟨w.heap.size + 1, 6, none⟩) (by simp) (.string q2))
  replace BL := Aside0.mk (blk_put BL.out 6 (.string q2) (cs' := #[.string ⟨#[]⟩, .int .u8 0, .int .u8 0, .int .u8 0, .int .u8 0, .int .i32 0, .string q2]) rfl)
  replace HB2 := Aside0.mk (below_set HB2.out (g := w.heap.size + 1) (j := 6) (v := .string q2) (by omega))
  clear k6 g6
  generalize w2.setCell ⟨w.heap.size + 1, 6, none⟩ (.string q2) = w3 at *
  refine (HF.out _ (HE.out.below HB2.out)).mono ?_
  rintro e w4 ⟨rfl, hw4⟩
  have FF := Aside0.mk (hw4 ▸ blk_new w3 (.cells #[.string f0, .string f1] 9 (0, 0)))
  have hb4 : Below w3.heap.size w3 w4 := hw4 ▸ below_1 w3 _
  replace BR := Aside0.mk (blk_below BR.out hb4)
  replace BL := Aside0.mk (blk_below BL.out hb4)
  have HB4 := Aside0.mk (below_step HB2.out hb4)
  have F3 : w.heap.size + 1 < w3.heap.size := by
    have := blk_lt BL.out
    rw [hw4] at this
    have h5 := HB2.out.size
    have h6 := blk_ne FF.out BL.out (by decide)
    simp at this; omega
  have FZ := Aside0.mk F3
  generalize w3.heap.size = F at *
  clear hb4 HB2 hw4 F3
  have z0 := blk_cell FF.out 0
  simp only [List.getElem?_toArray, List.getElem?_cons_zero, List.getElem?_cons_succ] at z0
  go_wp2_with fail
  refine (HN.out _).mono ?_
  rintro e w5 ⟨rfl, hb5⟩
  replace BR := Aside0.mk (blk_below BR.out hb5)
  replace BL := Aside0.mk (blk_below BL.out hb5)
  replace FF := Aside0.mk (blk_below FF.out hb5)
  have HB5 := Aside0.mk (below_step HB4.out hb5)
  clear hb5 HB4 z0
  have k1 := blk_cell BL.out 1
  have g1 := blk_frozen BL.out 1
  simp only [List.getElem?_toArray, List.getElem?_cons_zero, List.getElem?_cons_succ] at k1
  go_wp2_with fail
  replace BR := Aside0.mk (blk_far BR.out (p := ⟨w.heap.size + 1, 1, none⟩) (by simp) (.int .u8 op))
  replace FF := Aside0.mk (blk_far FF.out (p := ⟨w.heap.size + 1, 1, none⟩) (by have := FZ.out; simp; omega) (.int .u8 op))
  replace BL := Aside0.mk (blk_put BL.out 1 (.int .u8 op) (cs' := #[.string ⟨#[]⟩, .int .u8 op, .int .u8 0, .int .u8 0, .int .u8 0, .int .i32 0, .string q2]) rfl)
  replace HB5 := Aside0.mk (below_set HB5.out (g := w.heap.size + 1) (j := 1) (v := .int .u8 op) (by omega))
  clear k1 g1
  generalize w5.setCell ⟨w.heap.size + 1, 1, none⟩ (.int .u8 op) = w6 at *
  have HO := Aside0.mk (World.ownsRow_nil w6 w6.heap.size 3 1)
  have hNB := Nat.le_refl w6.heap.size
  have BN := Aside0.mk (blk_lt BL.out)
  have FN := Aside0.mk (blk_lt FF.out)
  generalize hNs : w6.heap.size = NB at HO BN FN
  rw [hNs] at hNB
  have HNB := Aside0.mk (Nat.le_of_eq hNs.symm)
  clear hNB hNs
  refine wp_loop_rounds 2 ?_
  rw [rounds_succ]
  have z0 := blk_cell FF.out 1
  simp only [List.getElem?_toArray, List.getElem?_cons_zero, List.getElem?_cons_succ] at z0
  go_wp2_with fail
  refine (HA0.out _).mono ?_
  rintro e y0 ⟨rfl, hb⟩
  replace BR := Aside0.mk (blk_below BR.out hb)
  replace BL := Aside0.mk (blk_below BL.out hb)
  replace FF := Aside0.mk (blk_below FF.out hb)
  replace HB5 := Aside0.mk (below_step HB5.out hb)
  replace HNB := Aside0.mk (Nat.le_trans HNB.out hb.size)
  replace HO := Aside0.mk (own_below HO.out hb)
  clear hb z0
  go_wp2_with (first | ((with_reducible refine gate_builtin (b := .append) (xs := #[.tmp 53, .tmp 55]) rfl ?_); at_builtin; refine print_append_num (w0 := y0) NB rfl (.tmp 53) (.tmp 55) 82 3 .i64 8 rfl Tryz.underlying82 (by kernel_rfl) (by decide) (.slice none 0 0) [] x0 rfl rfl HO.out (Below.refl _ _) HNB.out (by simp) ?_; intro v1 u0 hown hB hg hat; obtain ⟨g1_, c1_, rfl, hbg⟩ := own_shape (n := 1) hown (by decide)))
  clear HO
  have HO : Aside0 (u0.ownsRow NB 3 1 (.slice (some ⟨g1_, 0, none⟩) 1 c1_) 1 (nums .i64 [x0])) := ⟨hown⟩
  replace BR := Aside0.mk ((hB.block _ (Nat.lt_trans (by omega) BN.out)).trans BR.out)
  replace BL := Aside0.mk ((hB.block _ BN.out).trans BL.out)
  replace FF := Aside0.mk ((hB.block _ FN.out).trans FF.out)
  replace HB5 := Aside0.mk (HB5.out.trans (blw_leA hB (by have := BN.out; omega)))
  replace HNB := Aside0.mk (Nat.le_trans HNB.out hB.size)
  have HG1 := Aside0.mk hbg
  clear hown hB hg hat hbg
  rw [rounds_succ]
  go_wp2_with fail
  have q0 : u0.cell? ⟨g1_, 0, none⟩ = some (.int .i64 x0) := by simpa [Addr.add] using HO.out.cells (g := g1_) rfl 0 (.int .i64 x0) rfl
  refine (HM.out _ (w.heap.size + 1) (w.heap.size + 1) c1_ g1_ _ _ BL.out (Nat.le_refl _) q0 (by have := HG1.out; have := BN.out; omega)).mono ?_
  rintro e w9 ⟨rfl, hbl, hb9⟩
  replace BR := Aside0.mk ((hb9.block _ (by omega)).trans BR.out)
  replace BL := Aside0.mk hbl
  replace HB5 := Aside0.mk (HB5.out.trans (blw_leA hb9 (by omega)))
  clear hbl hb9 q0
  have l0 := blk_cell BL.out 0
  have r0_ := blk_cell BR.out 0
  have s0_ := blk_frozen BR.out 0
  have l1 := blk_cell BL.out 1
  have r1_ := blk_cell BR.out 1
  have s1_ := blk_frozen BR.out 1
  have l2 := blk_cell BL.out 2
  have r2_ := blk_cell BR.out 2
  have s2_ := blk_frozen BR.out 2
  have l3 := blk_cell BL.out 3
  have r3_ := blk_cell BR.out 3
  have s3_ := blk_frozen BR.out 3
  have l4 := blk_cell BL.out 4
  have r4_ := blk_cell BR.out 4
  have s4_ := blk_frozen BR.out 4
  have l5 := blk_cell BL.out 5
  have r5_ := blk_cell BR.out 5
  have s5_ := blk_frozen BR.out 5
  have l6 := blk_cell BL.out 6
  have r6_ := blk_cell BR.out 6
  have s6_ := blk_frozen BR.out 6
  simp only [List.getElem?_toArray, List.getElem?_cons_zero, List.getElem?_cons_succ] at l0 l1 l2 l3 l4 l5 l6 r0_ r1_ r2_ r3_ r4_ r5_ r6_
  go_wp2_with fail
  refine bodyPost_ret (results_cell_row rfl _ _ w.heap.size 65 #[.string ⟨#[]⟩, .int .u8 op, .int .u8 r0, .int .u8 r1, .int .u8 r2, .int .i32 r3, .string q2] (0, 0) _ rfl (blk_put (blk_put (blk_put (blk_put (blk_put (blk_put (blk_put BR.out 0 (.string ⟨#[]⟩) (cs' := #[.string ⟨#[]⟩, .int .u8 0, .int .u8 0, .int .u8 0, .int .u8 0, .int .i32 0, .string ⟨#[]⟩]) rfl) 1 (.int .u8 op) (cs' := #[.string ⟨#[]⟩, .int .u8 op, .int .u8 0, .int .u8 0, .int .u8 0, .int .i32 0, .string ⟨#[]⟩]) rfl) 2 (.int .u8 r0) (cs' := #[.string ⟨#[]⟩, .int .u8 op, .int .u8 r0, .int .u8 0, .int .u8 0, .int .i32 0, .string ⟨#[]⟩]) rfl) 3 (.int .u8 r1) (cs' := #[.string ⟨#[]⟩, .int .u8 op, .int .u8 r0, .int .u8 r1, .int .u8 0, .int .i32 0, .string ⟨#[]⟩]) rfl) 4 (.int .u8 r2) (cs' := #[.string ⟨#[]⟩, .int .u8 op, .int .u8 r0, .int .u8 r1, .int .u8 r2, .int .i32 0, .string ⟨#[]⟩]) rfl) 5 (.int .i32 r3) (cs' := #[.string ⟨#[]⟩, .int .u8 op, .int .u8 r0, .int .u8 r1, .int .u8 r2, .int .i32 r3, .string ⟨#[]⟩]) rfl) 6 (.string q2) (cs' := #[.string ⟨#[]⟩, .int .u8 op, .int .u8 r0, .int .u8 r1, .int .u8 r2, .int .i32 r3, .string q2]) rfl) hu65 rfl (by kernel_rfl)) rfl ⟨rfl, (below_set (below_set (below_set (below_set (below_set (below_set (below_set HB5.out (Nat.le_refl _)) (Nat.le_refl _)) (Nat.le_refl _)) (Nat.le_refl _)) (Nat.le_refl _)) (Nat.le_refl _)) (Nat.le_refl _))⟩

set_option maxHeartbeats 4000000 in
set_option maxRecDepth 100000 in
theorem line_0_2 (w : World) (s p1 q1 p2 q2 f0 f1 f2 : ByteArray) (is2 : Bool) (op x0 x1 r0 r1 r2 r3 : Int) (hE : Env w)
    (hC1 : ∀ W, Env W → Calls Tryz.prog 89 #[.string s, .string ⟨#[58, 32]⟩] W fun e w' => e = .returned (.tuple #[.string p1, .string q1, .bool false]) ∧ Below W.heap.size W w')
    (hC2 : ∀ W, Env W → Calls Tryz.prog 89 #[.string s, .string ⟨#[32, 45, 62, 32]⟩] W fun e w' => e = .returned (.tuple #[.string p2, .string q2, .bool is2]) ∧ Below W.heap.size W w')
    (hF : ∀ W, Env W → Calls Tryz.prog 90 #[.string p2] W fun e w' => e = .returned (.slice (some ⟨W.heap.size, 0, none⟩) 3 3) ∧ w' = W.alloc (.cells #[.string f0, .string f1, .string f2] 9 (0, 0)))
    (hN : ∀ W, Calls Tryz.prog 91 #[.string f0] W fun e w' => e = .returned (.tuple #[.int .u8 op, .bool true]) ∧ Below W.heap.size W w')
    (hA0 : ∀ W, Calls Tryz.prog 92 #[.string f1] W fun e w' => e = .returned (.tuple #[.int .i64 x0, .nilIface]) ∧ Below W.heap.size W w')
    (hA1 : ∀ W, Calls Tryz.prog 92 #[.string f2] W fun e w' => e = .returned (.tuple #[.int .i64 x1, .nilIface]) ∧ Below W.heap.size W w')
    (hM : ∀ (W : World) (B b c g : Nat) (a t : ByteArray), W.heap[b]? = some (.cells #[.string a, .int .u8 op, .int .u8 0, .int .u8 0, .int .u8 0, .int .i32 0, .string t] 65 (0, 0)) → B ≤ b → W.cell? ⟨g, 0, none⟩ = some (.int .i64 x0) → W.cell? ⟨g, 1, none⟩ = some (.int .i64 x1) → g ≠ b → 
      Calls Tryz.prog 93 #[.pointer (some ⟨b, 1, none⟩), .slice (some ⟨g, 0, none⟩) 2 c] W fun e w' => e = .returned (.tuple #[]) ∧ w'.heap[b]? = some (.cells #[.string a, .int .u8 op, .int .u8 r0, .int .u8 r1, .int .u8 r2, .int .i32 r3, .string t] 65 (0, 0)) ∧ Below B W w') :
    Calls Tryz.prog 48 #[.string s] w fun e w' => e = .returned (.agg #[.string ⟨#[]⟩, .int .u8 op, .int .u8 r0, .int .u8 r1, .int .u8 r2, .int .i32 r3, .string q2]) ∧ Below w.heap.size w w' := by
  have HE := Aside0.mk hE
  have HC1 := Aside0.mk hC1
  have HC2 := Aside0.mk hC2
  have HF := Aside0.mk hF
  have HN := Aside0.mk hN
  have HA0 := Aside0.mk hA0
  have HA1 := Aside0.mk hA1
  have HM := Aside0.mk hM
  have HBa := Aside0.mk (below_alloc (below_alloc (Below.refl w.heap.size w) (.cells #[.string ⟨#[]⟩, .int .u8 0, .int .u8 0, .int .u8 0, .int .u8 0, .int .i32 0, .string ⟨#[]⟩] 65 (0, 0))) (.cells #[.string ⟨#[]⟩, .int .u8 0, .int .u8 0, .int .u8 0, .int .u8 0, .int .i32 0, .string ⟨#[]⟩] 65 (0, 0)))
  have BR := Aside0.mk (blk_alloc (blk_new w (.cells #[.string ⟨#[]⟩, .int .u8 0, .int .u8 0, .int .u8 0, .int .u8 0, .int .i32 0, .string ⟨#[]⟩] 65 (0, 0))) (.cells #[.string ⟨#[]⟩, .int .u8 0, .int .u8 0, .int .u8 0, .int .u8 0, .int .i32 0, .string ⟨#[]⟩] 65 (0, 0)))
  have bl0 := blk_new (w.alloc (.cells #[.string ⟨#[]⟩, .int .u8 0, .int .u8 0, .int .u8 0, .int .u8 0, .int .i32 0, .string ⟨#[]⟩] 65 (0, 0))) (.cells #[.string ⟨#[]⟩, .int .u8 0, .int .u8 0, .int .u8 0, .int .u8 0, .int .i32 0, .string ⟨#[]⟩] 65 (0, 0))
  rw [World.size_alloc] at bl0
  have BL := Aside0.mk bl0
  clear hE hC1 hC2 hF hN hA0 hA1 hM bl0
  have hu65 := Tryz.underlying65
  go_enter Tryz.func48, Tryz.ntmps48
  go_wp2_with fail
  refine (HC1.out _ (HE.out.below (by simpa using HBa.out))).mono ?_
  rintro e w1 ⟨rfl, hb1⟩
  have HB1 := Aside0.mk (below_step HBa.out hb1)
  replace BR := Aside0.mk (blk_below BR.out hb1)
  replace BL := Aside0.mk (blk_below BL.out hb1)
  clear hb1 HBa
  go_wp2_with fail
  refine (HC2.out _ (HE.out.below HB1.out)).mono ?_
  rintro e w2 ⟨rfl, hb2⟩
  have HB2 := Aside0.mk (below_step HB1.out hb2)
  replace BR := Aside0.mk (blk_below BR.out hb2)
  replace BL := Aside0.mk (blk_below BL.out hb2)
  clear hb2 HB1
  have k6 := blk_cell BL.out 6
  have g6 := blk_frozen BL.out 6
  simp only [List.getElem?_toArray, List.getElem?_cons_zero, List.getElem?_cons_succ] at k6
  go_wp2_with fail
  replace BR := Aside0.mk (blk_far BR.out (p := ⟨w.heap.size + 1, 6, none⟩) (by simp) (.string q2))
  replace BL := Aside0.mk (blk_put BL.out 6 (.string q2) (cs' := #[.string ⟨#[]⟩, .int .u8 0, .int .u8 0, .int .u8 0, .int .u8 0, .int .i32 0, .string q2]) rfl)
  replace HB2 := Aside0.mk (below_set HB2.out (g := w.heap.size + 1) (j := 6) (v := .string q2) (by omega))
  clear k6 g6
  generalize w2.setCell ⟨w.heap.size + 1, 6, none⟩ (.string q2) = w3 at *
  refine (HF.out _ (HE.out.below HB2.out)).mono ?_
  rintro e w4 ⟨rfl, hw4⟩
  have FF := Aside0.mk (hw4 ▸ blk_new w3 (.cells #[.string f0, .string f1, .string f2] 9 (0, 0)))
  have hb4 : Below w3.heap.size w3 w4 := hw4 ▸ below_1 w3 _
  replace BR := Aside0.mk (blk_below BR.out hb4)
  replace BL := Aside0.mk (blk_below BL.out hb4)
  have HB4 := Aside0.mk (below_step HB2.out hb4)
  have F3 : w.heap.size + 1 < w3.heap.size := by
    have := blk_lt BL.out
    rw [hw4] at this
    have h5 := HB2.out.size
    have h6 := blk_ne FF.out BL.out (by decide)
    simp at this; omega
  have FZ := Aside0.mk F3
  generalize w3.heap.size = F at *
  clear hb4 HB2 hw4 F3
  have z0 := blk_cell FF.out 0
  simp only [List.getElem?_toArray, List.getElem?_cons_zero, List.getElem?_cons_succ] at z0
  go_wp2_with fail
  refine (HN.out _).mono ?_
  rintro e w5 ⟨rfl, hb5⟩
  replace BR := Aside0.mk (blk_below BR.out hb5)
  replace BL := Aside0.mk (blk_below BL.out hb5)
  replace FF := Aside0.mk (blk_below FF.out hb5)
  have HB5 := Aside0.mk (below_step HB4.out hb5)
  clear hb5 HB4 z0
  have k1 := blk_cell BL.out 1
  have g1 := blk_frozen BL.out 1
  simp only [List.getElem?_toArray, List.getElem?_cons_zero, List.getElem?_cons_succ] at k1
  go_wp2_with fail
  replace BR := Aside0.mk (blk_far BR.out (p := ⟨w.heap.size + 1, 1, none⟩) (by simp) (.int .u8 op))
  replace FF := Aside0.mk (blk_far FF.out (p := ⟨w.heap.size + 1, 1, none⟩) (by have := FZ.out; simp; omega) (.int .u8 op))
  replace BL := Aside0.mk (blk_put BL.out 1 (.int .u8 op) (cs' := #[.string ⟨#[]⟩, .int .u8 op, .int .u8 0, .int .u8 0, .int .u8 0, .int .i32 0, .string q2]) rfl)
  replace HB5 := Aside0.mk (below_set HB5.out (g := w.heap.size + 1) (j := 1) (v := .int .u8 op) (by omega))
  clear k1 g1
  generalize w5.setCell ⟨w.heap.size + 1, 1, none⟩ (.int .u8 op) = w6 at *
  have HO := Aside0.mk (World.ownsRow_nil w6 w6.heap.size 3 1)
  have hNB := Nat.le_refl w6.heap.size
  have BN := Aside0.mk (blk_lt BL.out)
  have FN := Aside0.mk (blk_lt FF.out)
  generalize hNs : w6.heap.size = NB at HO BN FN
  rw [hNs] at hNB
  have HNB := Aside0.mk (Nat.le_of_eq hNs.symm)
  clear hNB hNs
  refine wp_loop_rounds 3 ?_
  rw [rounds_succ]
  have z0 := blk_cell FF.out 1
  simp only [List.getElem?_toArray, List.getElem?_cons_zero, List.getElem?_cons_succ] at z0
  go_wp2_with fail
  refine (HA0.out _).mono ?_
  rintro e y0 ⟨rfl, hb⟩
  replace BR := Aside0.mk (blk_below BR.out hb)
  replace BL := Aside0.mk (blk_below BL.out hb)
  replace FF := Aside0.mk (blk_below FF.out hb)
  replace HB5 := Aside0.mk (below_step HB5.out hb)
  replace HNB := Aside0.mk (Nat.le_trans HNB.out hb.size)
  replace HO := Aside0.mk (own_below HO.out hb)
  clear hb z0
  go_wp2_with (first | ((with_reducible refine gate_builtin (b := .append) (xs := #[.tmp 53, .tmp 55]) rfl ?_); at_builtin; refine print_append_num (w0 := y0) NB rfl (.tmp 53) (.tmp 55) 82 3 .i64 8 rfl Tryz.underlying82 (by kernel_rfl) (by decide) (.slice none 0 0) [] x0 rfl rfl HO.out (Below.refl _ _) HNB.out (by simp) ?_; intro v1 u0 hown hB hg hat; obtain ⟨g1_, c1_, rfl, hbg⟩ := own_shape (n := 1) hown (by decide)))
  clear HO
  have HO : Aside0 (u0.ownsRow NB 3 1 (.slice (some ⟨g1_, 0, none⟩) 1 c1_) 1 (nums .i64 [x0])) := ⟨hown⟩
  replace BR := Aside0.mk ((hB.block _ (Nat.lt_trans (by omega) BN.out)).trans BR.out)
  replace BL := Aside0.mk ((hB.block _ BN.out).trans BL.out)
  replace FF := Aside0.mk ((hB.block _ FN.out).trans FF.out)
  replace HB5 := Aside0.mk (HB5.out.trans (blw_leA hB (by have := BN.out; omega)))
  replace HNB := Aside0.mk (Nat.le_trans HNB.out hB.size)
  have HG1 := Aside0.mk hbg
  clear hown hB hg hat hbg
  rw [rounds_succ]
  have z1 := blk_cell FF.out 2
  simp only [List.getElem?_toArray, List.getElem?_cons_zero, List.getElem?_cons_succ] at z1
  go_wp2_with fail
  refine (HA1.out _).mono ?_
  rintro e y1 ⟨rfl, hb⟩
  replace BR := Aside0.mk (blk_below BR.out hb)
  replace BL := Aside0.mk (blk_below BL.out hb)
  replace FF := Aside0.mk (blk_below FF.out hb)
  replace HB5 := Aside0.mk (below_step HB5.out hb)
  replace HNB := Aside0.mk (Nat.le_trans HNB.out hb.size)
  replace HO := Aside0.mk (own_below HO.out hb)
  clear hb z1
  go_wp2_with (first | ((with_reducible refine gate_builtin (b := .append) (xs := #[.tmp 53, .tmp 55]) rfl ?_); at_builtin; refine print_append_num (w0 := y1) NB rfl (.tmp 53) (.tmp 55) 82 3 .i64 8 rfl Tryz.underlying82 (by kernel_rfl) (by decide) (.slice (some ⟨g1_, 0, none⟩) 1 c1_) [x0] x1 rfl rfl HO.out (Below.refl _ _) HNB.out (by simp) ?_; intro v2 u1 hown hB hg hat; obtain ⟨g2_, c2_, rfl, hbg⟩ := own_shape (n := 2) hown (by decide)))
  clear HO
  have HO : Aside0 (u1.ownsRow NB 3 1 (.slice (some ⟨g2_, 0, none⟩) 2 c2_) 2 (nums .i64 [x0, x1])) := ⟨hown⟩
  replace BR := Aside0.mk ((hB.block _ (Nat.lt_trans (by omega) BN.out)).trans BR.out)
  replace BL := Aside0.mk ((hB.block _ BN.out).trans BL.out)
  replace FF := Aside0.mk ((hB.block _ FN.out).trans FF.out)
  replace HB5 := Aside0.mk (HB5.out.trans (blw_leA hB (by have := BN.out; omega)))
  replace HNB := Aside0.mk (Nat.le_trans HNB.out hB.size)
  have HG2 := Aside0.mk hbg
  clear hown hB hg hat hbg
  rw [rounds_succ]
  go_wp2_with fail
  have q0 : u1.cell? ⟨g2_, 0, none⟩ = some (.int .i64 x0) := by simpa [Addr.add] using HO.out.cells (g := g2_) rfl 0 (.int .i64 x0) rfl
  have q1 : u1.cell? ⟨g2_, 1, none⟩ = some (.int .i64 x1) := by simpa [Addr.add] using HO.out.cells (g := g2_) rfl 1 (.int .i64 x1) rfl
  refine (HM.out _ (w.heap.size + 1) (w.heap.size + 1) c2_ g2_ _ _ BL.out (Nat.le_refl _) q0 q1 (by have := HG2.out; have := BN.out; omega)).mono ?_
  rintro e w9 ⟨rfl, hbl, hb9⟩
  replace BR := Aside0.mk ((hb9.block _ (by omega)).trans BR.out)
  replace BL := Aside0.mk hbl
  replace HB5 := Aside0.mk (HB5.out.trans (blw_leA hb9 (by omega)))
  clear hbl hb9 q0 q1
  have l0 := blk_cell BL.out 0
  have r0_ := blk_cell BR.out 0
  have s0_ := blk_frozen BR.out 0
  have l1 := blk_cell BL.out 1
  have r1_ := blk_cell BR.out 1
  have s1_ := blk_frozen BR.out 1
  have l2 := blk_cell BL.out 2
  have r2_ := blk_cell BR.out 2
  have s2_ := blk_frozen BR.out 2
  have l3 := blk_cell BL.out 3
  have r3_ := blk_cell BR.out 3
  have s3_ := blk_frozen BR.out 3
  have l4 := blk_cell BL.out 4
  have r4_ := blk_cell BR.out 4
  have s4_ := blk_frozen BR.out 4
  have l5 := blk_cell BL.out 5
  have r5_ := blk_cell BR.out 5
  have s5_ := blk_frozen BR.out 5
  have l6 := blk_cell BL.out 6
  have r6_ := blk_cell BR.out 6
  have s6_ := blk_frozen BR.out 6
  simp only [List.getElem?_toArray, List.getElem?_cons_zero, List.getElem?_cons_succ] at l0 l1 l2 l3 l4 l5 l6 r0_ r1_ r2_ r3_ r4_ r5_ r6_
  go_wp2_with fail
  refine bodyPost_ret (results_cell_row rfl _ _ w.heap.size 65 #[.string ⟨#[]⟩, .int .u8 op, .int .u8 r0, .int .u8 r1, .int .u8 r2, .int .i32 r3, .string q2] (0, 0) _ rfl (blk_put (blk_put (blk_put (blk_put (blk_put (blk_put (blk_put BR.out 0 (.string ⟨#[]⟩) (cs' := #[.string ⟨#[]⟩, .int .u8 0, .int .u8 0, .int .u8 0, .int .u8 0, .int .i32 0, .string ⟨#[]⟩]) rfl) 1 (.int .u8 op) (cs' := #[.string ⟨#[]⟩, .int .u8 op, .int .u8 0, .int .u8 0, .int .u8 0, .int .i32 0, .string ⟨#[]⟩]) rfl) 2 (.int .u8 r0) (cs' := #[.string ⟨#[]⟩, .int .u8 op, .int .u8 r0, .int .u8 0, .int .u8 0, .int .i32 0, .string ⟨#[]⟩]) rfl) 3 (.int .u8 r1) (cs' := #[.string ⟨#[]⟩, .int .u8 op, .int .u8 r0, .int .u8 r1, .int .u8 0, .int .i32 0, .string ⟨#[]⟩]) rfl) 4 (.int .u8 r2) (cs' := #[.string ⟨#[]⟩, .int .u8 op, .int .u8 r0, .int .u8 r1, .int .u8 r2, .int .i32 0, .string ⟨#[]⟩]) rfl) 5 (.int .i32 r3) (cs' := #[.string ⟨#[]⟩, .int .u8 op, .int .u8 r0, .int .u8 r1, .int .u8 r2, .int .i32 r3, .string ⟨#[]⟩]) rfl) 6 (.string q2) (cs' := #[.string ⟨#[]⟩, .int .u8 op, .int .u8 r0, .int .u8 r1, .int .u8 r2, .int .i32 r3, .string q2]) rfl) hu65 rfl (by kernel_rfl)) rfl ⟨rfl, (below_set (below_set (below_set (below_set (below_set (below_set (below_set HB5.out (Nat.le_refl _)) (Nat.le_refl _)) (Nat.le_refl _)) (Nat.le_refl _)) (Nat.le_refl _)) (Nat.le_refl _)) (Nat.le_refl _))⟩

set_option maxHeartbeats 4000000 in
set_option maxRecDepth 100000 in
theorem line_0_3 (w : World) (s p1 q1 p2 q2 f0 f1 f2 f3 : ByteArray) (is2 : Bool) (op x0 x1 x2 r0 r1 r2 r3 : Int) (hE : Env w)
    (hC1 : ∀ W, Env W → Calls Tryz.prog 89 #[.string s, .string ⟨#[58, 32]⟩] W fun e w' => e = .returned (.tuple #[.string p1, .string q1, .bool false]) ∧ Below W.heap.size W w')
    (hC2 : ∀ W, Env W → Calls Tryz.prog 89 #[.string s, .string ⟨#[32, 45, 62, 32]⟩] W fun e w' => e = .returned (.tuple #[.string p2, .string q2, .bool is2]) ∧ Below W.heap.size W w')
    (hF : ∀ W, Env W → Calls Tryz.prog 90 #[.string p2] W fun e w' => e = .returned (.slice (some ⟨W.heap.size, 0, none⟩) 4 4) ∧ w' = W.alloc (.cells #[.string f0, .string f1, .string f2, .string f3] 9 (0, 0)))
    (hN : ∀ W, Calls Tryz.prog 91 #[.string f0] W fun e w' => e = .returned (.tuple #[.int .u8 op, .bool true]) ∧ Below W.heap.size W w')
    (hA0 : ∀ W, Calls Tryz.prog 92 #[.string f1] W fun e w' => e = .returned (.tuple #[.int .i64 x0, .nilIface]) ∧ Below W.heap.size W w')
    (hA1 : ∀ W, Calls Tryz.prog 92 #[.string f2] W fun e w' => e = .returned (.tuple #[.int .i64 x1, .nilIface]) ∧ Below W.heap.size W w')
    (hA2 : ∀ W, Calls Tryz.prog 92 #[.string f3] W fun e w' => e = .returned (.tuple #[.int .i64 x2, .nilIface]) ∧ Below W.heap.size W w')
    (hM : ∀ (W : World) (B b c g : Nat) (a t : ByteArray), W.heap[b]? = some (.cells #[.string a, .int .u8 op, .int .u8 0, .int .u8 0, .int .u8 0, .int .i32 0, .string t] 65 (0, 0)) → B ≤ b → W.cell? ⟨g, 0, none⟩ = some (.int .i64 x0) → W.cell? ⟨g, 1, none⟩ = some (.int .i64 x1) → W.cell? ⟨g, 2, none⟩ = some (.int .i64 x2) → g ≠ b → 
      Calls Tryz.prog 93 #[.pointer (some ⟨b, 1, none⟩), .slice (some ⟨g, 0, none⟩) 3 c] W fun e w' => e = .returned (.tuple #[]) ∧ w'.heap[b]? = some (.cells #[.string a, .int .u8 op, .int .u8 r0, .int .u8 r1, .int .u8 r2, .int .i32 r3, .string t] 65 (0, 0)) ∧ Below B W w') :
    Calls Tryz.prog 48 #[.string s] w fun e w' => e = .returned (.agg #[.string ⟨#[]⟩, .int .u8 op, .int .u8 r0, .int .u8 r1, .int .u8 r2, .int .i32 r3, .string q2]) ∧ Below w.heap.size w w' := by
  have HE := Aside0.mk hE
  have HC1 := Aside0.mk hC1
  have HC2 := Aside0.mk hC2
  have HF := Aside0.mk hF
  have HN := Aside0.mk hN
  have HA0 := Aside0.mk hA0
  have HA1 := Aside0.mk hA1
  have HA2 := Aside0.mk hA2
  have HM := Aside0.mk hM
  have HBa := Aside0.mk (below_alloc (below_alloc (Below.refl w.heap.size w) (.cells #[.string ⟨#[]⟩, .int .u8 0, .int .u8 0, .int .u8 0, .int .u8 0, .int .i32 0, .string ⟨#[]⟩] 65 (0, 0))) (.cells #[.string ⟨#[]⟩, .int .u8 0, .int .u8 0, .int .u8 0, .int .u8 0, .int .i32 0, .string ⟨#[]⟩] 65 (0, 0)))
  have BR := Aside0.mk (blk_alloc (blk_new w (.cells #[.string ⟨#[]⟩, .int .u8 0, .int .u8 0, .int .u8 0, .int .u8 0, .int .i32 0, .string ⟨#[]⟩] 65 (0, 0))) (.cells #[.string ⟨#[]⟩, .int .u8 0, .int .u8 0, .int .u8 0, .int .u8 0, .int .i32 0, .string ⟨#[]⟩] 65 (0, 0)))
  have bl0 := blk_new (w.alloc (.cells #[.string ⟨#[]⟩, .int .u8 0, .int .u8 0, .int .u8 0, .int .u8 0, .int .i32 0, .string ⟨#[]⟩] 65 (0, 0))) (.cells #[.string ⟨#[]⟩, .int .u8 0, .int .u8 0, .int .u8 0, .int .u8 0, .int .i32 0, .string ⟨#[]⟩] 65 (0, 0))
  rw [World.size_alloc] at bl0
  have BL := Aside0.mk bl0
  clear hE hC1 hC2 hF hN hA0 hA1 hA2 hM bl0
  have hu65 := Tryz.underlying65
  go_enter Tryz.func48, Tryz.ntmps48
  go_wp2_with fail
  refine (HC1.out _ (HE.out.below (by simpa using HBa.out))).mono ?_
  rintro e w1 ⟨rfl, hb1⟩
  have HB1 := Aside0.mk (below_step HBa.out hb1)
  replace BR := Aside0.mk (blk_below BR.out hb1)
  replace BL := Aside0.mk (blk_below BL.out hb1)
  clear hb1 HBa
  go_wp2_with fail
  refine (HC2.out _ (HE.out.below HB1.out)).mono ?_
  rintro e w2 ⟨rfl, hb2⟩
  have HB2 := Aside0.mk (below_step HB1.out hb2)
  replace BR := Aside0.mk (blk_below BR.out hb2)
  replace BL := Aside0.mk (blk_below BL.out hb2)
  clear hb2 HB1
  have k6 := blk_cell BL.out 6
  have g6 := blk_frozen BL.out 6
  simp only [List.getElem?_toArray, List.getElem?_cons_zero, List.getElem?_cons_succ] at k6
  go_wp2_with fail
  replace BR := Aside0.mk (blk_far BR.out (p := ⟨w.heap.size + 1, 6, none⟩) (by simp) (.string q2))
  replace BL := Aside0.mk (blk_put BL.out 6 (.string q2) (cs' := #[.string ⟨#[]⟩, .int .u8 0, .int .u8 0, .int .u8 0, .int .u8 0, .int .i32 0, .string q2]) rfl)
  replace HB2 := Aside0.mk (below_set HB2.out (g := w.heap.size + 1) (j := 6) (v := .string q2) (by omega))
  clear k6 g6
  generalize w2.setCell ⟨w.heap.size + 1, 6, none⟩ (.string q2) = w3 at *
  refine (HF.out _ (HE.out.below HB2.out)).mono ?_
  rintro e w4 ⟨rfl, hw4⟩
  have FF := Aside0.mk (hw4 ▸ blk_new w3 (.cells #[.string f0, .string f1, .string f2, .string f3] 9 (0, 0)))
  have hb4 : Below w3.heap.size w3 w4 := hw4 ▸ below_1 w3 _
  replace BR := Aside0.mk (blk_below BR.out hb4)
  replace BL := Aside0.mk (blk_below BL.out hb4)
  have HB4 := Aside0.mk (below_step HB2.out hb4)
  have F3 : w.heap.size + 1 < w3.heap.size := by
    have := blk_lt BL.out
    rw [hw4] at this
    have h5 := HB2.out.size
    have h6 := blk_ne FF.out BL.out (by decide)
    simp at this; omega
  have FZ := Aside0.mk F3
  generalize w3.heap.size = F at *
  clear hb4 HB2 hw4 F3
  have z0 := blk_cell FF.out 0
  simp only [List.getElem?_toArray, List.getElem?_cons_zero, List.getElem?_cons_succ] at z0
  go_wp2_with fail
  refine (HN.out _).mono ?_
  rintro e w5 ⟨rfl, hb5⟩
  replace BR := Aside0.mk (blk_below BR.out hb5)
  replace BL := Aside0.mk (blk_below BL.out hb5)
  replace FF := Aside0.mk (blk_below FF.out hb5)
  have HB5 := Aside0.mk (below_step HB4.out hb5)
  clear hb5 HB4 z0
  have k1 := blk_cell BL.out 1
  have g1 := blk_frozen BL.out 1
  simp only [List.getElem?_toArray, List.getElem?_cons_zero, List.getElem?_cons_succ] at k1
  go_wp2_with fail
  replace BR := Aside0.mk (blk_far BR.out (p := ⟨w.heap.size + 1, 1, none⟩) (by simp) (.int .u8 op))
  replace FF := Aside0.mk (blk_far FF.out (p := ⟨w.heap.size + 1, 1, none⟩) (by have := FZ.out; simp; omega) (.int .u8 op))
  replace BL := Aside0.mk (blk_put BL.out 1 (.int .u8 op) (cs' := #[.string ⟨#[]⟩, .int .u8 op, .int .u8 0, .int .u8 0, .int .u8 0, .int .i32 0, .string q2]) rfl)
  replace HB5 := Aside0.mk (below_set HB5.out (g := w.heap.size + 1) (j := 1) (v := .int .u8 op) (by omega))
  clear k1 g1
  generalize w5.setCell ⟨w.heap.size + 1, 1, none⟩ (.int .u8 op) = w6 at *
  have HO := Aside0.mk (World.ownsRow_nil w6 w6.heap.size 3 1)
  have hNB := Nat.le_refl w6.heap.size
  have BN := Aside0.mk (blk_lt BL.out)
  have FN := Aside0.mk (blk_lt FF.out)
  generalize hNs : w6.heap.size = NB at HO BN FN
  rw [hNs] at hNB
  have HNB := Aside0.mk (Nat.le_of_eq hNs.symm)
  clear hNB hNs
  refine wp_loop_rounds 4 ?_
  rw [rounds_succ]
  have z0 := blk_cell FF.out 1
  simp only [List.getElem?_toArray, List.getElem?_cons_zero, List.getElem?_cons_succ] at z0
  go_wp2_with fail
  refine (HA0.out _).mono ?_
  rintro e y0 ⟨rfl, hb⟩
  replace BR := Aside0.mk (blk_below BR.out hb)
  replace BL := Aside0.mk (blk_below BL.out hb)
  replace FF := Aside0.mk (blk_below FF.out hb)
  replace HB5 := Aside0.mk (below_step HB5.out hb)
  replace HNB := Aside0.mk (Nat.le_trans HNB.out hb.size)
  replace HO := Aside0.mk (own_below HO.out hb)
  clear hb z0
  go_wp2_with (first | ((with_reducible refine gate_builtin (b := .append) (xs := #[.tmp 53, .tmp 55]) rfl ?_); at_builtin; refine print_append_num (w0 := y0) NB rfl (.tmp 53) (.tmp 55) 82 3 .i64 8 rfl Tryz.underlying82 (by kernel_rfl) (by decide) (.slice none 0 0) [] x0 rfl rfl HO.out (Below.refl _ _) HNB.out (by simp) ?_; intro v1 u0 hown hB hg hat; obtain ⟨g1_, c1_, rfl, hbg⟩ := own_shape (n := 1) hown (by decide)))
  clear HO
  have HO : Aside0 (u0.ownsRow NB 3 1 (.slice (some ⟨g1_, 0, none⟩) 1 c1_) 1 (nums .i64 [x0])) := ⟨hown⟩
  replace BR := Aside0.mk ((hB.block _ (Nat.lt_trans (by omega) BN.out)).trans BR.out)
  replace BL := Aside0.mk ((hB.block _ BN.out).trans BL.out)
  replace FF := Aside0.mk ((hB.block _ FN.out).trans FF.out)
  replace HB5 := Aside0.mk (HB5.out.trans (blw_leA hB (by have := BN.out; omega)))
  replace HNB := Aside0.mk (Nat.le_trans HNB.out hB.size)
  have HG1 := Aside0.mk hbg
  clear hown hB hg hat hbg
  rw [rounds_succ]
  have z1 := blk_cell FF.out 2
  simp only [List.getElem?_toArray, List.getElem?_cons_zero, List.getElem?_cons_succ] at z1
  go_wp2_with fail
  refine (HA1.out _).mono ?_
  rintro e y1 ⟨rfl, hb⟩
  replace BR := Aside0.mk (blk_below BR.out hb)
  replace BL := Aside0.mk (blk_below BL.out hb)
  replace FF := Aside0.mk (blk_below FF.out hb)
  replace HB5 := Aside0.mk (below_step HB5.out hb)
  replace HNB := Aside0.mk (Nat.le_trans HNB.out hb.size)
  replace HO := Aside0.mk (own_below HO.out hb)
  clear hb z1
  go_wp2_with (first | ((with_reducible refine gate_builtin (b := .append) (xs := #[.tmp 53, .tmp 55]) rfl ?_); at_builtin; refine print_append_num (w0 := y1) NB rfl (.tmp 53) (.tmp 55) 82 3 .i64 8 rfl Tryz.underlying82 (by kernel_rfl) (by decide) (.slice (some ⟨g1_, 0, none⟩) 1 c1_) [x0] x1 rfl rfl HO.out (Below.refl _ _) HNB.out (by simp) ?_; intro v2 u1 hown hB hg hat; obtain ⟨g2_, c2_, rfl, hbg⟩ := own_shape (n := 2) hown (by decide)))
  clear HO
  have HO : Aside0 (u1.ownsRow NB 3 1 (.slice (some ⟨g2_, 0, none⟩) 2 c2_) 2 (nums .i64 [x0, x1])) := ⟨hown⟩
  replace BR := Aside0.mk ((hB.block _ (Nat.lt_trans (by omega) BN.out)).trans BR.out)
  replace BL := Aside0.mk ((hB.block _ BN.out).trans BL.out)
  replace FF := Aside0.mk ((hB.block _ FN.out).trans FF.out)
  replace HB5 := Aside0.mk (HB5.out.trans (blw_leA hB (by have := BN.out; omega)))
  replace HNB := Aside0.mk (Nat.le_trans HNB.out hB.size)
  have HG2 := Aside0.mk hbg
  clear hown hB hg hat hbg
  rw [rounds_succ]
  have z2 := blk_cell FF.out 3
  simp only [List.getElem?_toArray, List.getElem?_cons_zero, List.getElem?_cons_succ] at z2
  go_wp2_with fail
  refine (HA2.out _).mono ?_
  rintro e y2 ⟨rfl, hb⟩
  replace BR := Aside0.mk (blk_below BR.out hb)
  replace BL := Aside0.mk (blk_below BL.out hb)
  replace FF := Aside0.mk (blk_below FF.out hb)
  replace HB5 := Aside0.mk (below_step HB5.out hb)
  replace HNB := Aside0.mk (Nat.le_trans HNB.out hb.size)
  replace HO := Aside0.mk (own_below HO.out hb)
  clear hb z2
  go_wp2_with (first | ((with_reducible refine gate_builtin (b := .append) (xs := #[.tmp 53, .tmp 55]) rfl ?_); at_builtin; refine print_append_num (w0 := y2) NB rfl (.tmp 53) (.tmp 55) 82 3 .i64 8 rfl Tryz.underlying82 (by kernel_rfl) (by decide) (.slice (some ⟨g2_, 0, none⟩) 2 c2_) [x0, x1] x2 rfl rfl HO.out (Below.refl _ _) HNB.out (by simp) ?_; intro v3 u2 hown hB hg hat; obtain ⟨g3_, c3_, rfl, hbg⟩ := own_shape (n := 3) hown (by decide)))
  clear HO
  have HO : Aside0 (u2.ownsRow NB 3 1 (.slice (some ⟨g3_, 0, none⟩) 3 c3_) 3 (nums .i64 [x0, x1, x2])) := ⟨hown⟩
  replace BR := Aside0.mk ((hB.block _ (Nat.lt_trans (by omega) BN.out)).trans BR.out)
  replace BL := Aside0.mk ((hB.block _ BN.out).trans BL.out)
  replace FF := Aside0.mk ((hB.block _ FN.out).trans FF.out)
  replace HB5 := Aside0.mk (HB5.out.trans (blw_leA hB (by have := BN.out; omega)))
  replace HNB := Aside0.mk (Nat.le_trans HNB.out hB.size)
  have HG3 := Aside0.mk hbg
  clear hown hB hg hat hbg
  rw [rounds_succ]
  go_wp2_with fail
  have q0 : u2.cell? ⟨g3_, 0, none⟩ = some (.int .i64 x0) := by simpa [Addr.add] using HO.out.cells (g := g3_) rfl 0 (.int .i64 x0) rfl
  have q1 : u2.cell? ⟨g3_, 1, none⟩ = some (.int .i64 x1) := by simpa [Addr.add] using HO.out.cells (g := g3_) rfl 1 (.int .i64 x1) rfl
  have q2 : u2.cell? ⟨g3_, 2, none⟩ = some (.int .i64 x2) := by simpa [Addr.add] using HO.out.cells (g := g3_) rfl 2 (.int .i64 x2) rfl
  refine (HM.out _ (w.heap.size + 1) (w.heap.size + 1) c3_ g3_ _ _ BL.out (Nat.le_refl _) q0 q1 q2 (by have := HG3.out; have := BN.out; omega)).mono ?_
  rintro e w9 ⟨rfl, hbl, hb9⟩
  replace BR := Aside0.mk ((hb9.block _ (by omega)).trans BR.out)
  replace BL := Aside0.mk hbl
  replace HB5 := Aside0.mk (HB5.out.trans (blw_leA hb9 (by omega)))
  clear hbl hb9 q0 q1 q2
  have l0 := blk_cell BL.out 0
  have r0_ := blk_cell BR.out 0
  have s0_ := blk_frozen BR.out 0
  have l1 := blk_cell BL.out 1
  have r1_ := blk_cell BR.out 1
  have s1_ := blk_frozen BR.out 1
  have l2 := blk_cell BL.out 2
  have r2_ := blk_cell BR.out 2
  have s2_ := blk_frozen BR.out 2
  have l3 := blk_cell BL.out 3
  have r3_ := blk_cell BR.out 3
  have s3_ := blk_frozen BR.out 3
  have l4 := blk_cell BL.out 4
  have r4_ := blk_cell BR.out 4
  have s4_ := blk_frozen BR.out 4
  have l5 := blk_cell BL.out 5
  have r5_ := blk_cell BR.out 5
  have s5_ := blk_frozen BR.out 5
  have l6 := blk_cell BL.out 6
  have r6_ := blk_cell BR.out 6
  have s6_ := blk_frozen BR.out 6
  simp only [List.getElem?_toArray, List.getElem?_cons_zero, List.getElem?_cons_succ] at l0 l1 l2 l3 l4 l5 l6 r0_ r1_ r2_ r3_ r4_ r5_ r6_
  go_wp2_with fail
  refine bodyPost_ret (results_cell_row rfl _ _ w.heap.size 65 #[.string ⟨#[]⟩, .int .u8 op, .int .u8 r0, .int .u8 r1, .int .u8 r2, .int .i32 r3, .string q2] (0, 0) _ rfl (blk_put (blk_put (blk_put (blk_put (blk_put (blk_put (blk_put BR.out 0 (.string ⟨#[]⟩) (cs' := #[.string ⟨#[]⟩, .int .u8 0, .int .u8 0, .int .u8 0, .int .u8 0, .int .i32 0, .string ⟨#[]⟩]) rfl) 1 (.int .u8 op) (cs' := #[.string ⟨#[]⟩, .int .u8 op, .int .u8 0, .int .u8 0, .int .u8 0, .int .i32 0, .string ⟨#[]⟩]) rfl) 2 (.int .u8 r0) (cs' := #[.string ⟨#[]⟩, .int .u8 op, .int .u8 r0, .int .u8 0, .int .u8 0, .int .i32 0, .string ⟨#[]⟩]) rfl) 3 (.int .u8 r1) (cs' := #[.string ⟨#[]⟩, .int .u8 op, .int .u8 r0, .int .u8 r1, .int .u8 0, .int .i32 0, .string ⟨#[]⟩]) rfl) 4 (.int .u8 r2) (cs' := #[.string ⟨#[]⟩, .int .u8 op, .int .u8 r0, .int .u8 r1, .int .u8 r2, .int .i32 0, .string ⟨#[]⟩]) rfl) 5 (.int .i32 r3) (cs' := #[.string ⟨#[]⟩, .int .u8 op, .int .u8 r0, .int .u8 r1, .int .u8 r2, .int .i32 r3, .string ⟨#[]⟩]) rfl) 6 (.string q2) (cs' := #[.string ⟨#[]⟩, .int .u8 op, .int .u8 r0, .int .u8 r1, .int .u8 r2, .int .i32 r3, .string q2]) rfl) hu65 rfl (by kernel_rfl)) rfl ⟨rfl, (below_set (below_set (below_set (below_set (below_set (below_set (below_set HB5.out (Nat.le_refl _)) (Nat.le_refl _)) (Nat.le_refl _)) (Nat.le_refl _)) (Nat.le_refl _)) (Nat.le_refl _)) (Nat.le_refl _))⟩

set_option maxHeartbeats 4000000 in
set_option maxRecDepth 100000 in
theorem line_1_0 (w : World) (s p1 q1 p2 q2 f0 : ByteArray) (is2 : Bool) (op  r0 r1 r2 r3 : Int) (hE : Env w)
    (hC1 : ∀ W, Env W → Calls Tryz.prog 89 #[.string s, .string ⟨#[58, 32]⟩] W fun e w' => e = .returned (.tuple #[.string p1, .string q1, .bool true]) ∧ Below W.heap.size W w')
    (hC2 : ∀ W, Env W → Calls Tryz.prog 89 #[.string q1, .string ⟨#[32, 45, 62, 32]⟩] W fun e w' => e = .returned (.tuple #[.string p2, .string q2, .bool is2]) ∧ Below W.heap.size W w')
    (hF : ∀ W, Env W → Calls Tryz.prog 90 #[.string p2] W fun e w' => e = .returned (.slice (some ⟨W.heap.size, 0, none⟩) 1 1) ∧ w' = W.alloc (.cells #[.string f0] 9 (0, 0)))
    (hN : ∀ W, Calls Tryz.prog 91 #[.string f0] W fun e w' => e = .returned (.tuple #[.int .u8 op, .bool true]) ∧ Below W.heap.size W w')
    
    (hM : ∀ (W : World) (B b : Nat) (a t : ByteArray), W.heap[b]? = some (.cells #[.string a, .int .u8 op, .int .u8 0, .int .u8 0, .int .u8 0, .int .i32 0, .string t] 65 (0, 0)) → B ≤ b → 
      Calls Tryz.prog 93 #[.pointer (some ⟨b, 1, none⟩), .slice none 0 0] W fun e w' => e = .returned (.tuple #[]) ∧ w'.heap[b]? = some (.cells #[.string a, .int .u8 op, .int .u8 r0, .int .u8 r1, .int .u8 r2, .int .i32 r3, .string t] 65 (0, 0)) ∧ Below B W w') :
    Calls Tryz.prog 48 #[.string s] w fun e w' => e = .returned (.agg #[.string p1, .int .u8 op, .int .u8 r0, .int .u8 r1, .int .u8 r2, .int .i32 r3, .string q2]) ∧ Below w.heap.size w w' := by
  have HE := Aside0.mk hE
  have HC1 := Aside0.mk hC1
  have HC2 := Aside0.mk hC2
  have HF := Aside0.mk hF
  have HN := Aside0.mk hN
  have HM := Aside0.mk hM
  have HBa := Aside0.mk (below_alloc (below_alloc (Below.refl w.heap.size w) (.cells #[.string ⟨#[]⟩, .int .u8 0, .int .u8 0, .int .u8 0, .int .u8 0, .int .i32 0, .string ⟨#[]⟩] 65 (0, 0))) (.cells #[.string ⟨#[]⟩, .int .u8 0, .int .u8 0, .int .u8 0, .int .u8 0, .int .i32 0, .string ⟨#[]⟩] 65 (0, 0)))
  have BR := Aside0.mk (blk_alloc (blk_new w (.cells #[.string ⟨#[]⟩, .int .u8 0, .int .u8 0, .int .u8 0, .int .u8 0, .int .i32 0, .string ⟨#[]⟩] 65 (0, 0))) (.cells #[.string ⟨#[]⟩, .int .u8 0, .int .u8 0, .int .u8 0, .int .u8 0, .int .i32 0, .string ⟨#[]⟩] 65 (0, 0)))
  have bl0 := blk_new (w.alloc (.cells #[.string ⟨#[]⟩, .int .u8 0, .int .u8 0, .int .u8 0, .int .u8 0, .int .i32 0, .string ⟨#[]⟩] 65 (0, 0))) (.cells #[.string ⟨#[]⟩, .int .u8 0, .int .u8 0, .int .u8 0, .int .u8 0, .int .i32 0, .string ⟨#[]⟩] 65 (0, 0))
  rw [World.size_alloc] at bl0
  have BL := Aside0.mk bl0
  clear hE hC1 hC2 hF hN  hM bl0
  have hu65 := Tryz.underlying65
  go_enter Tryz.func48, Tryz.ntmps48
  go_wp2_with fail
  refine (HC1.out _ (HE.out.below (by simpa using HBa.out))).mono ?_
  rintro e w1 ⟨rfl, hb1⟩
  have HB1 := Aside0.mk (below_step HBa.out hb1)
  replace BR := Aside0.mk (blk_below BR.out hb1)
  replace BL := Aside0.mk (blk_below BL.out hb1)
  clear hb1 HBa
  have k0 := blk_cell BL.out 0
  have g0 := blk_frozen BL.out 0
  simp only [List.getElem?_toArray, List.getElem?_cons_zero, List.getElem?_cons_succ] at k0
  go_wp2_with fail
  replace BR := Aside0.mk (blk_far BR.out (p := ⟨w.heap.size + 1, 0, none⟩) (by simp) (.string p1))
  replace BL := Aside0.mk (blk_put BL.out 0 (.string p1) (cs' := #[.string p1, .int .u8 0, .int .u8 0, .int .u8 0, .int .u8 0, .int .i32 0, .string ⟨#[]⟩]) rfl)
  replace HB1 := Aside0.mk (below_set HB1.out (g := w.heap.size + 1) (j := 0) (v := .string p1) (by omega))
  clear k0 g0
  generalize w1.setCell ⟨w.heap.size + 1, 0, none⟩ (.string p1) = w1 at *
  refine (HC2.out _ (HE.out.below HB1.out)).mono ?_
  rintro e w2 ⟨rfl, hb2⟩
  have HB2 := Aside0.mk (below_step HB1.out hb2)
  replace BR := Aside0.mk (blk_below BR.out hb2)
  replace BL := Aside0.mk (blk_below BL.out hb2)
  clear hb2 HB1
  have k6 := blk_cell BL.out 6
  have g6 := blk_frozen BL.out 6
  simp only [List.getElem?_toArray, List.getElem?_cons_zero, List.getElem?_cons_succ] at k6
  go_wp2_with fail
  replace BR := Aside0.mk (blk_far BR.out (p := ⟨w.heap.size + 1, 6, none⟩) (by simp) (.string q2))
  replace BL := Aside0.mk (blk_put BL.out 6 (.string q2) (cs' := #[.string p1, .int .u8 0, .int .u8 0, .int .u8 0, .int .u8 0, .int .i32 0, .string q2]) rfl)
  replace HB2 := Aside0.mk (below_set HB2.out (g := w.heap.size + 1) (j := 6) (v := .string q2) (by omega))
  clear k6 g6
  generalize w2.setCell ⟨w.heap.size + 1, 6, none⟩ (.string q2) = w3 at *
  refine (HF.out _ (HE.out.below HB2.out)).mono ?_
  rintro e w4 ⟨rfl, hw4⟩
  have FF := Aside0.mk (hw4 ▸ blk_new w3 (.cells #[.string f0] 9 (0, 0)))
  have hb4 : Below w3.heap.size w3 w4 := hw4 ▸ below_1 w3 _
  replace BR := Aside0.mk (blk_below BR.out hb4)
  replace BL := Aside0.mk (blk_below BL.out hb4)
  have HB4 := Aside0.mk (below_step HB2.out hb4)
  have F3 : w.heap.size + 1 < w3.heap.size := by
    have := blk_lt BL.out
    rw [hw4] at this
    have h5 := HB2.out.size
    have h6 := blk_ne FF.out BL.out (by decide)
    simp at this; omega
  have FZ := Aside0.mk F3
  generalize w3.heap.size = F at *
  clear hb4 HB2 hw4 F3
  have z0 := blk_cell FF.out 0
  simp only [List.getElem?_toArray, List.getElem?_cons_zero, List.getElem?_cons_succ] at z0
  go_wp2_with fail
  refine (HN.out _).mono ?_
  rintro e w5 ⟨rfl, hb5⟩
  replace BR := Aside0.mk (blk_below BR.out hb5)
  replace BL := Aside0.mk (blk_below BL.out hb5)
  replace FF := Aside0.mk (blk_below FF.out hb5)
  have HB5 := Aside0.mk (below_step HB4.out hb5)
  clear hb5 HB4 z0
  have k1 := blk_cell BL.out 1
  have g1 := blk_frozen BL.out 1
  simp only [List.getElem?_toArray, List.getElem?_cons_zero, List.getElem?_cons_succ] at k1
  go_wp2_with fail
  replace BR := Aside0.mk (blk_far BR.out (p := ⟨w.heap.size + 1, 1, none⟩) (by simp) (.int .u8 op))
  replace FF := Aside0.mk (blk_far FF.out (p := ⟨w.heap.size + 1, 1, none⟩) (by have := FZ.out; simp; omega) (.int .u8 op))
  replace BL := Aside0.mk (blk_put BL.out 1 (.int .u8 op) (cs' := #[.string p1, .int .u8 op, .int .u8 0, .int .u8 0, .int .u8 0, .int .i32 0, .string q2]) rfl)
  replace HB5 := Aside0.mk (below_set HB5.out (g := w.heap.size + 1) (j := 1) (v := .int .u8 op) (by omega))
  clear k1 g1
  generalize w5.setCell ⟨w.heap.size + 1, 1, none⟩ (.int .u8 op) = w6 at *
  have HO := Aside0.mk (World.ownsRow_nil w6 w6.heap.size 3 1)
  have hNB := Nat.le_refl w6.heap.size
  have BN := Aside0.mk (blk_lt BL.out)
  have FN := Aside0.mk (blk_lt FF.out)
  generalize hNs : w6.heap.size = NB at HO BN FN
  rw [hNs] at hNB
  have HNB := Aside0.mk (Nat.le_of_eq hNs.symm)
  clear hNB hNs
  refine wp_loop_rounds 1 ?_
  rw [rounds_succ]
  go_wp2_with fail
  refine (HM.out _ (w.heap.size + 1) (w.heap.size + 1) _ _ BL.out (Nat.le_refl _)).mono ?_
  rintro e w9 ⟨rfl, hbl, hb9⟩
  replace BR := Aside0.mk ((hb9.block _ (by omega)).trans BR.out)
  replace BL := Aside0.mk hbl
  replace HB5 := Aside0.mk (HB5.out.trans (blw_leA hb9 (by omega)))
  clear hbl hb9 
  have l0 := blk_cell BL.out 0
  have r0_ := blk_cell BR.out 0
  have s0_ := blk_frozen BR.out 0
  have l1 := blk_cell BL.out 1
  have r1_ := blk_cell BR.out 1
  have s1_ := blk_frozen BR.out 1
  have l2 := blk_cell BL.out 2
  have r2_ := blk_cell BR.out 2
  have s2_ := blk_frozen BR.out 2
  have l3 := blk_cell BL.out 3
  have r3_ := blk_cell BR.out 3
  have s3_ := blk_frozen BR.out 3
  have l4 := blk_cell BL.out 4
  have r4_ := blk_cell BR.out 4
  have s4_ := blk_frozen BR.out 4
  have l5 := blk_cell BL.out 5
  have r5_ := blk_cell BR.out 5
  have s5_ := blk_frozen BR.out 5
  have l6 := blk_cell BL.out 6
  have r6_ := blk_cell BR.out 6
  have s6_ := blk_frozen BR.out 6
  simp only [List.getElem?_toArray, List.getElem?_cons_zero, List.getElem?_cons_succ] at l0 l1 l2 l3 l4 l5 l6 r0_ r1_ r2_ r3_ r4_ r5_ r6_
  go_wp2_with fail
  refine bodyPost_ret (results_cell_row rfl _ _ w.heap.size 65 #[.string p1, .int .u8 op, .int .u8 r0, .int .u8 r1, .int .u8 r2, .int .i32 r3, .string q2] (0, 0) _ rfl (blk_put (blk_put (blk_put (blk_put (blk_put (blk_put (blk_put BR.out 0 (.string p1) (cs' := #[.string p1, .int .u8 0, .int .u8 0, .int .u8 0, .int .u8 0, .int .i32 0, .string ⟨#[]⟩]) rfl) 1 (.int .u8 op) (cs' := #[.string p1, .int .u8 op, .int .u8 0, .int .u8 0, .int .u8 0, .int .i32 0, .string ⟨#[]⟩]) rfl) 2 (.int .u8 r0) (cs' := #[.string p1, .int .u8 op, .int .u8 r0, .int .u8 0, .int .u8 0, .int .i32 0, .string ⟨#[]⟩]) rfl) 3 (.int .u8 r1) (cs' := #[.string p1, .int .u8 op, .int .u8 r0, .int .u8 r1, .int .u8 0, .int .i32 0, .string ⟨#[]⟩]) rfl) 4 (.int .u8 r2) (cs' := #[.string p1, .int .u8 op, .int .u8 r0, .int .u8 r1, .int .u8 r2, .int .i32 0, .string ⟨#[]⟩]) rfl) 5 (.int .i32 r3) (cs' := #[.string p1, .int .u8 op, .int .u8 r0, .int .u8 r1, .int .u8 r2, .int .i32 r3, .string ⟨#[]⟩]) rfl) 6 (.string q2) (cs' := #[.string p1, .int .u8 op, .int .u8 r0, .int .u8 r1, .int .u8 r2, .int .i32 r3, .string q2]) rfl) hu65 rfl (by kernel_rfl)) rfl ⟨rfl, (below_set (below_set (below_set (below_set (below_set (below_set (below_set HB5.out (Nat.le_refl _)) (Nat.le_refl _)) (Nat.le_refl _)) (Nat.le_refl _)) (Nat.le_refl _)) (Nat.le_refl _)) (Nat.le_refl _))⟩

set_option maxHeartbeats 4000000 in
set_option maxRecDepth 100000 in
theorem line_1_1 (w : World) (s p1 q1 p2 q2 f0 f1 : ByteArray) (is2 : Bool) (op x0 r0 r1 r2 r3 : Int) (hE : Env w)
    (hC1 : ∀ W, Env W → Calls Tryz.prog 89 #[.string s, .string ⟨#[58, 32]⟩] W fun e w' => e = .returned (.tuple #[.string p1, .string q1, .bool true]) ∧ Below W.heap.size W w')
    (hC2 : ∀ W, Env W → Calls Tryz.prog 89 #[.string q1, .string ⟨#[32, 45, 62, 32]⟩] W fun e w' => e = .returned (.tuple #[.string p2, .string q2, .bool is2]) ∧ Below W.heap.size W w')
    (hF : ∀ W, Env W → Calls Tryz.prog 90 #[.string p2] W fun e w' => e = .returned (.slice (some ⟨W.heap.size, 0, none⟩) 2 2) ∧ w' = W.alloc (.cells #[.string f0, .string f1] 9 (0, 0)))
    (hN : ∀ W, Calls Tryz.prog 91 #[.string f0] W fun e w' => e = .returned (.tuple #[.int .u8 op, .bool true]) ∧ Below W.heap.size W w')
    (hA0 : ∀ W, Calls Tryz.prog 92 #[.string f1] W fun e w' => e = .returned (.tuple #[.int .i64 x0, .nilIface]) ∧ Below W.heap.size W w')
    (hM : ∀ (W : World) (B b c g : Nat) (a t : ByteArray), W.heap[b]? = some (.cells #[.string a, .int .u8 op, .int .u8 0, .int .u8 0, .int .u8 0, .int .i32 0, .string t] 65 (0, 0)) → B ≤ b → W.cell? ⟨g, 0, none⟩ = some (.int .i64 x0) → g ≠ b → 
      Calls Tryz.prog 93 #[.pointer (some ⟨b, 1, none⟩), .slice (some ⟨g, 0, none⟩) 1 c] W fun e w' => e = .returned (.tuple #[]) ∧ w'.heap[b]? = some (.cells #[.string a, .int .u8 op, .int .u8 r0, .int .u8 r1, .int .u8 r2, .int .i32 r3, .string t] 65 (0, 0)) ∧ Below B W w') :
    Calls Tryz.prog 48 #[.string s] w fun e w' => e = .returned (.agg #[.string p1, .int .u8 op, .int .u8 r0, .int .u8 r1, .int .u8 r2, .int .i32 r3, .string q2]) ∧ Below w.heap.size w w' := by
  have HE := Aside0.mk hE
  have HC1 := Aside0.mk hC1
  have HC2 := Aside0.mk hC2
  have HF := Aside0.mk hF
  have HN := Aside0.mk hN
  have HA0 := Aside0.mk hA0
  have HM := Aside0.mk hM
  have HBa := Aside0.mk (below_alloc (below_alloc (Below.refl w.heap.size w) (.cells #[.string ⟨#[]⟩, .int .u8 0, .int .u8 0, .int .u8 0, .int .u8 0, .int .i32 0, .string ⟨#[]⟩] 65 (0, 0))) (.cells #[.string ⟨#[]⟩, .int .u8 0, .int .u8 0, .int .u8 0, .int .u8 0, .int .i32 0, .string ⟨#[]⟩] 65 (0, 0)))
  have BR := Aside0.mk (blk_alloc (blk_new w (.cells #[.string ⟨#[]⟩, .int .u8 0, .int .u8 0, .int .u8 0, .int .u8 0, .int .i32 0, .string ⟨#[]⟩] 65 (0, 0))) (.cells #[.string ⟨#[]⟩, .int .u8 0, .int .u8 0, .int .u8 0, .int .u8 0, .int .i32 0, .string ⟨#[]⟩] 65 (0, 0)))
  have bl0 := blk_new (w.alloc (.cells #[.string ⟨#[]⟩, .int .u8 0, .int .u8 0, .int .u8 0, .int .u8 0, .int .i32 0, .string ⟨#[]⟩] 65 (0, 0))) (.cells #[.string ⟨#[]⟩, .int .u8 0, .int .u8 0, .int .u8 0, .int .u8 0, .int .i32 0, .string ⟨#[]⟩] 65 (0, 0))
  rw [World.size_alloc] at bl0
  have BL := Aside0.mk bl0
  clear hE hC1 hC2 hF hN hA0 hM bl0
  have hu65 := Tryz.underlying65
  go_enter Tryz.func48, Tryz.ntmps48
  go_wp2_with fail
  refine (HC1.out _ (HE.out.below (by simpa using HBa.out))).mono ?_
  rintro e w1 ⟨rfl, hb1⟩
  have HB1 := Aside0.mk (below_step HBa.out hb1)
  replace BR := Aside0.mk (blk_below BR.out hb1)
  replace BL := Aside0.mk (blk_below BL.out hb1)
  clear hb1 HBa
  have k0 := blk_cell BL.out 0
  have g0 := blk_frozen BL.out 0
  simp only [List.getElem?_toArray, List.getElem?_cons_zero, List.getElem?_cons_succ] at k0
  go_wp2_with fail
  replace BR := Aside0.mk (blk_far BR.out (p := ⟨w.heap.size + 1, 0, none⟩) (by simp) (.string p1))
  replace BL := Aside0.mk (blk_put BL.out 0 (.string p1) (cs' := #[.string p1, .int .u8 0, .int .u8 0, .int .u8 0, .int .u8 0, .int .i32 0, .string ⟨#[]⟩]) rfl)
  replace HB1 := Aside0.mk (below_set HB1.out (g := w.heap.size + 1) (j := 0) (v := .string p1) (by omega))
  clear k0 g0
  generalize w1.setCell ⟨w.heap.size + 1, 0, none⟩ (.string p1) = w1 at *
  refine (HC2.out _ (HE.out.below HB1.out)).mono ?_
  rintro e w2 ⟨rfl, hb2⟩
  have HB2 := Aside0.mk (below_step HB1.out hb2)
  replace BR := Aside0.mk (blk_below BR.out hb2)
  replace BL := Aside0.mk (blk_below BL.out hb2)
  clear hb2 HB1
  have k6 := blk_cell BL.out 6
  have g6 := blk_frozen BL.out 6
  simp only [List.getElem?_toArray, List.getElem?_cons_zero, List.getElem?_cons_succ] at k6
  go_wp2_with fail
  replace BR := Aside0.mk (blk_far BR.out (p := ⟨w.heap.size + 1, 6, none⟩) (by simp) (.string q2))
  replace BL := Aside0.mk (blk_put BL.out 6 (.string q2) (cs' := #[.string p1, .int .u8 0, .int .u8 0, .int .u8 0, .int .u8 0, .int .i32 0, .string q2]) rfl)
  replace HB2 := Aside0.mk (below_set HB2.out (g := w.heap.size + 1) (j := 6) (v := .string q2) (by omega))
  clear k6 g6
  generalize w2.setCell ⟨w.heap.size + 1, 6, none⟩ (.string q2) = w3 at *
  refine (HF.out _ (HE.out.below HB2.out)).mono ?_
  rintro e w4 ⟨rfl, hw4⟩
  have FF := Aside0.mk (hw4 ▸ blk_new w3 (.cells #[.string f0, .string f1] 9 (0, 0)))
  have hb4 : Below w3.heap.size w3 w4 := hw4 ▸ below_1 w3 _
  replace BR := Aside0.mk (blk_below BR.out hb4)
  replace BL := Aside0.mk (blk_below BL.out hb4)
  have HB4 := Aside0.mk (below_step HB2.out hb4)
  have F3 : w.heap.size + 1 < w3.heap.size := by
    have := blk_lt BL.out
    rw [hw4] at this
    have h5 := HB2.out.size
    have h6 := blk_ne FF.out BL.out (by decide)
    simp at this; omega
  have FZ := Aside0.mk F3
  generalize w3.heap.size = F at *
  clear hb4 HB2 hw4 F3
  have z0 := blk_cell FF.out 0
  simp only [List.getElem?_toArray, List.getElem?_cons_zero, List.getElem?_cons_succ] at z0
  go_wp2_with fail
  refine (HN.out _).mono ?_
  rintro e w5 ⟨rfl, hb5⟩
  replace BR := Aside0.mk (blk_below BR.out hb5)
  replace BL := Aside0.mk (blk_below BL.out hb5)
  replace FF := Aside0.mk (blk_below FF.out hb5)
  have HB5 := Aside0.mk (below_step HB4.out hb5)
  clear hb5 HB4 z0
  have k1 := blk_cell BL.out 1
  have g1 := blk_frozen BL.out 1
  simp only [List.getElem?_toArray, List.getElem?_cons_zero, List.getElem?_cons_succ] at k1
  go_wp2_with fail
  replace BR := Aside0.mk (blk_far BR.out (p := ⟨w.heap.size + 1, 1, none⟩) (by simp) (.int .u8 op))
  replace FF := Aside0.mk (blk_far FF.out (p := ⟨w.heap.size + 1, 1, none⟩) (by have := FZ.out; simp; omega) (.int .u8 op))
  replace BL := Aside0.mk (blk_put BL.out 1 (.int .u8 op) (cs' := #[.string p1, .int .u8 op, .int .u8 0, .int .u8 0, .int .u8 0, .int .i32 0, .string q2]) rfl)
  replace HB5 := Aside0.mk (below_set HB5.out (g := w.heap.size + 1) (j := 1) (v := .int .u8 op) (by omega))
  clear k1 g1
  generalize w5.setCell ⟨w.heap.size + 1, 1, none⟩ (.int .u8 op) = w6 at *
  have HO := Aside0.mk (World.ownsRow_nil w6 w6.heap.size 3 1)
  have hNB := Nat.le_refl w6.heap.size
  have BN := Aside0.mk (blk_lt BL.out)
  have FN := Aside0.mk (blk_lt FF.out)
  generalize hNs : w6.heap.size = NB at HO BN FN
  rw [hNs] at hNB
  have HNB := Aside0.mk (Nat.le_of_eq hNs.symm)
  clear hNB hNs
  refine wp_loop_rounds 2 ?_
  rw [rounds_succ]
  have z0 := blk_cell FF.out 1
  simp only [List.getElem?_toArray, List.getElem?_cons_zero, List.getElem?_cons_succ] at z0
  go_wp2_with fail
  refine (HA0.out _).mono ?_
  rintro e y0 ⟨rfl, hb⟩
  replace BR := Aside0.mk (blk_below BR.out hb)
  replace BL := Aside0.mk (blk_below BL.out hb)
  replace FF := Aside0.mk (blk_below FF.out hb)
  replace HB5 := Aside0.mk (below_step HB5.out hb)
  replace HNB := Aside0.mk (Nat.le_trans HNB.out hb.size)
  replace HO := Aside0.mk (own_below HO.out hb)
  clear hb z0
  go_wp2_with (first | ((with_reducible refine gate_builtin (b := .append) (xs := #[.tmp 53, .tmp 55]) rfl ?_); at_builtin; refine print_append_num (w0 := y0) NB rfl (.tmp 53) (.tmp 55) 82 3 .i64 8 rfl Tryz.underlying82 (by kernel_rfl) (by decide) (.slice none 0 0) [] x0 rfl rfl HO.out (Below.refl _ _) HNB.out (by simp) ?_; intro v1 u0 hown hB hg hat; obtain ⟨g1_, c1_, rfl, hbg⟩ := own_shape (n := 1) hown (by decide)))
  clear HO
  have HO : Aside0 (u0.ownsRow NB 3 1 (.slice (some ⟨g1_, 0, none⟩) 1 c1_) 1 (nums .i64 [x0])) := ⟨hown⟩
  replace BR := Aside0.mk ((hB.block _ (Nat.lt_trans (by omega) BN.out)).trans BR.out)
  replace BL := Aside0.mk ((hB.block _ BN.out).trans BL.out)
  replace FF := Aside0.mk ((hB.block _ FN.out).trans FF.out)
  replace HB5 := Aside0.mk (HB5.out.trans (blw_leA hB (by have := BN.out; omega)))
  replace HNB := Aside0.mk (Nat.le_trans HNB.out hB.size)
  have HG1 := Aside0.mk hbg
  clear hown hB hg hat hbg
  rw [rounds_succ]
  go_wp2_with fail
  have q0 : u0.cell? ⟨g1_, 0, none⟩ = some (.int .i64 x0) := by simpa [Addr.add] using HO.out.cells (g := g1_) rfl 0 (.int .i64 x0) rfl
  refine (HM.out _ (w.heap.size + 1) (w.heap.size + 1) c1_ g1_ _ _ BL.out (Nat.le_refl _) q0 (by have := HG1.out; have := BN.out; omega)).mono ?_
  rintro e w9 ⟨rfl, hbl, hb9⟩
  replace BR := Aside0.mk ((hb9.block _ (by omega)).trans BR.out)
  replace BL := Aside0.mk hbl
  replace HB5 := Aside0.mk (HB5.out.trans (blw_leA hb9 (by omega)))
  clear hbl hb9 q0
  have l0 := blk_cell BL.out 0
  have r0_ := blk_cell BR.out 0
  have s0_ := blk_frozen BR.out 0
  have l1 := blk_cell BL.out 1
  have r1_ := blk_cell BR.out 1
  have s1_ := blk_frozen BR.out 1
  have l2 := blk_cell BL.out 2
  have r2_ := blk_cell BR.out 2
  have s2_ := blk_frozen BR.out 2
  have l3 := blk_cell BL.out 3
  have r3_ := blk_cell BR.out 3
  have s3_ := blk_frozen BR.out 3
  have l4 := blk_cell BL.out 4
  have r4_ := blk_cell BR.out 4
  have s4_ := blk_frozen BR.out 4
  have l5 := blk_cell BL.out 5
  have r5_ := blk_cell BR.out 5
  have s5_ := blk_frozen BR.out 5
  have l6 := blk_cell BL.out 6
  have r6_ := blk_cell BR.out 6
  have s6_ := blk_frozen BR.out 6
  simp only [List.getElem?_toArray, List.getElem?_cons_zero, List.getElem?_cons_succ] at l0 l1 l2 l3 l4 l5 l6 r0_ r1_ r2_ r3_ r4_ r5_ r6_
  go_wp2_with fail
  refine bodyPost_ret (results_cell_row rfl _ _ w.heap.size 65 #[.string p1, .int .u8 op, .int .u8 r0, .int .u8 r1, .int .u8 r2, .int .i32 r3, .string q2] (0, 0) _ rfl (blk_put (blk_put (blk_put (blk_put (blk_put (blk_put (blk_put BR.out 0 (.string p1) (cs' := #[.string p1, .int .u8 0, .int .u8 0, .int .u8 0, .int .u8 0, .int .i32 0, .string ⟨#[]⟩]) rfl) 1 (.int .u8 op) (cs' := #[.string p1, .int .u8 op, .int .u8 0, .int .u8 0, .int .u8 0, .int .i32 0, .string ⟨#[]⟩]) rfl) 2 (.int .u8 r0) (cs' := #[.string p1, .int .u8 op, .int .u8 r0, .int .u8 0, .int .u8 0, .int .i32 0, .string ⟨#[]⟩]) rfl) 3 (.int .u8 r1) (cs' := #[.string p1, .int .u8 op, .int .u8 r0, .int .u8 r1, .int .u8 0, .int .i32 0, .string ⟨#[]⟩]) rfl) 4 (.int .u8 r2) (cs' := #[.string p1, .int .u8 op, .int .u8 r0, .int .u8 r1, .int .u8 r2, .int .i32 0, .string ⟨#[]⟩]) rfl) 5 (.int .i32 r3) (cs' := #[.string p1, .int .u8 op, .int .u8 r0, .int .u8 r1, .int .u8 r2, .int .i32 r3, .string ⟨#[]⟩]) rfl) 6 (.string q2) (cs' := #[.string p1, .int .u8 op, .int .u8 r0, .int .u8 r1, .int .u8 r2, .int .i32 r3, .string q2]) rfl) hu65 rfl (by kernel_rfl)) rfl ⟨rfl, (below_set (below_set (below_set (below_set (below_set (below_set (below_set HB5.out (Nat.le_refl _)) (Nat.le_refl _)) (Nat.le_refl _)) (Nat.le_refl _)) (Nat.le_refl _)) (Nat.le_refl _)) (Nat.le_refl _))⟩

set_option maxHeartbeats 4000000 in
set_option maxRecDepth 100000 in
theorem line_1_2 (w : World) (s p1 q1 p2 q2 f0 f1 f2 : ByteArray) (is2 : Bool) (op x0 x1 r0 r1 r2 r3 : Int) (hE : Env w)
    (hC1 : ∀ W, Env W → Calls Tryz.prog 89 #[.string s, .string ⟨#[58, 32]⟩] W fun e w' => e = .returned (.tuple #[.string p1, .string q1, .bool true]) ∧ Below W.heap.size W w')
    (hC2 : ∀ W, Env W → Calls Tryz.prog 89 #[.string q1, .string ⟨#[32, 45, 62, 32]⟩] W fun e w' => e = .returned (.tuple #[.string p2, .string q2, .bool is2]) ∧ Below W.heap.size W w')
    (hF : ∀ W, Env W → Calls Tryz.prog 90 #[.string p2] W fun e w' => e = .returned (.slice (some ⟨W.heap.size, 0, none⟩) 3 3) ∧ w' = W.alloc (.cells #[.string f0, .string f1, .string f2] 9 (0, 0)))
    (hN : ∀ W, Calls Tryz.prog 91 #[.string f0] W fun e w' => e = .returned (.tuple #[.int .u8 op, .bool true]) ∧ Below W.heap.size W w')
    (hA0 : ∀ W, Calls Tryz.prog 92 #[.string f1] W fun e w' => e = .returned (.tuple #[.int .i64 x0, .nilIface]) ∧ Below W.heap.size W w')
    (hA1 : ∀ W, Calls Tryz.prog 92 #[.string f2] W fun e w' => e = .returned (.tuple #[.int .i64 x1, .nilIface]) ∧ Below W.heap.size W w')
    (hM : ∀ (W : World) (B b c g : Nat) (a t : ByteArray), W.heap[b]? = some (.cells #[.string a, .int .u8 op, .int .u8 0, .int .u8 0, .int .u8 0, .int .i32 0, .string t] 65 (0, 0)) → B ≤ b → W.cell? ⟨g, 0, none⟩ = some (.int .i64 x0) → W.cell? ⟨g, 1, none⟩ = some (.int .i64 x1) → g ≠ b → 
      Calls Tryz.prog 93 #[.pointer (some ⟨b, 1, none⟩), .slice (some ⟨g, 0, none⟩) 2 c] W fun e w' => e = .returned (.tuple #[]) ∧ w'.heap[b]? = some (.cells #[.string a, .int .u8 op, .int .u8 r0, .int .u8 r1, .int .u8 r2, .int .i32 r3, .string t] 65 (0, 0)) ∧ Below B W w') :
    Calls Tryz.prog 48 #[.string s] w fun e w' => e = .returned (.agg #[.string p1, .int .u8 op, .int .u8 r0, .int .u8 r1, .int .u8 r2, .int .i32 r3, .string q2]) ∧ Below w.heap.size w w' := by
  have HE := Aside0.mk hE
  have HC1 := Aside0.mk hC1
  have HC2 := Aside0.mk hC2
  have HF := Aside0.mk hF
  have HN := Aside0.mk hN
  have HA0 := Aside0.mk hA0
  have HA1 := Aside0.mk hA1
  have HM := Aside0.mk hM
  have HBa := Aside0.mk (below_alloc (below_alloc (Below.refl w.heap.size w) (.cells #[.string ⟨#[]⟩, .int .u8 0, .int .u8 0, .int .u8 0, .int .u8 0, .int .i32 0, .string ⟨#[]⟩] 65 (0, 0))) (.cells #[.string ⟨#[]⟩, .int .u8 0, .int .u8 0, .int .u8 0, .int .u8 0, .int .i32 0, .string ⟨#[]⟩] 65 (0, 0)))
  have BR := Aside0.mk (blk_alloc (blk_new w (.cells #[.string ⟨#[]⟩, .int .u8 0, .int .u8 0, .int .u8 0, .int .u8 0, .int .i32 0, .string ⟨#[]⟩] 65 (0, 0))) (.cells #[.string ⟨#[]⟩, .int .u8 0, .int .u8 0, .int .u8 0, .int .u8 0, .int .i32 0, .string ⟨#[]⟩] 65 (0, 0)))
  have bl0 := blk_new (w.alloc (.cells #[.string ⟨#[]⟩, .int .u8 0, .int .u8 0, .int .u8 0, .int .u8 0, .int .i32 0, .string ⟨#[]⟩] 65 (0, 0))) (.cells #[.string ⟨#[]⟩, .int .u8 0, .int .u8 0, .int .u8 0, .int .u8 0, .int .i32 0, .string ⟨#[]⟩] 65 (0, 0))
  rw [World.size_alloc] at bl0
  have BL := Aside0.mk bl0
  clear hE hC1 hC2 hF hN hA0 hA1 hM bl0
  have hu65 := Tryz.underlying65
  go_enter Tryz.func48, Tryz.ntmps48
  go_wp2_with fail
  refine (HC1.out _ (HE.out.below (by simpa using HBa.out))).mono ?_
  rintro e w1 ⟨rfl, hb1⟩
  have HB1 := Aside0.mk (below_step HBa.out hb1)
  replace BR := Aside0.mk (blk_below BR.out hb1)
  replace BL := Aside0.mk (blk_below BL.out hb1)
  clear hb1 HBa
  have k0 := blk_cell BL.out 0
  have g0 := blk_frozen BL.out 0
  simp only [List.getElem?_toArray, List.getElem?_cons_zero, List.getElem?_cons_succ] at k0
  go_wp2_with fail
  replace BR := Aside0.mk (blk_far BR.out (p := ⟨w.heap.size + 1, 0, none⟩) (by simp) (.string p1))
  replace BL := Aside0.mk (blk_put BL.out 0 (.string p1) (cs' := #[.string p1, .int .u8 0, .int .u8 0, .int .u8 0, .int .u8 0, .int .i32 0, .string ⟨#[]⟩]) rfl)
  replace HB1 := Aside0.mk (below_set HB1.out (g := w.heap.size + 1) (j := 0) (v := .string p1) (by omega))
  clear k0 g0
  generalize w1.setCell ⟨w.heap.size + 1, 0, none⟩ (.string p1) = w1 at *
  refine (HC2.out _ (HE.out.below HB1.out)).mono ?_
  rintro e w2 ⟨rfl, hb2⟩
  have HB2 := Aside0.mk (below_step HB1.out hb2)
  replace BR := Aside0.mk (blk_below BR.out hb2)
  replace BL := Aside0.mk (blk_below BL.out hb2)
  clear hb2 HB1
  have k6 := blk_cell BL.out 6
  have g6 := blk_frozen BL.out 6
  simp only [List.getElem?_toArray, List.getElem?_cons_zero, List.getElem?_cons_succ] at k6
  go_wp2_with fail
  replace BR := Aside0.mk (blk_far BR.out (p := ⟨w.heap.size + 1, 6, none⟩) (by simp) (.string q2))
  replace BL := Aside0.mk (blk_put BL.out 6 (.string q2) (cs' := #[.string p1, .int .u8 0, .int .u8 0, .int .u8 0, .int .u8 0, .int .i32 0, .string q2]) rfl)
  replace HB2 := Aside0.mk (below_set HB2.out (g := w.heap.size + 1) (j := 6) (v := .string q2) (by omega))
  clear k6 g6
  generalize w2.setCell ⟨w.heap.size + 1, 6, none⟩ (.string q2) = w3 at *
  refine (HF.out _ (HE.out.below HB2.out)).mono ?_
  rintro e w4 ⟨rfl, hw4⟩
  have FF := Aside0.mk (hw4 ▸ blk_new w3 (.cells #[.string f0, .string f1, .string f2] 9 (0, 0)))
  have hb4 : Below w3.heap.size w3 w4 := hw4 ▸ below_1 w3 _
  replace BR := Aside0.mk (blk_below BR.out hb4)
  replace BL := Aside0.mk (blk_below BL.out hb4)
  have HB4 := Aside0.mk (below_step HB2.out hb4)
  have F3 : w.heap.size + 1 < w3.heap.size := by
    have := blk_lt BL.out
    rw [hw4] at this
    have h5 := HB2.out.size
    have h6 := blk_ne FF.out BL.out (by decide)
    simp at this; omega
  have FZ := Aside0.mk F3
  generalize w3.heap.size = F at *
  clear hb4 HB2 hw4 F3
  have z0 := blk_cell FF.out 0
  simp only [List.getElem?_toArray, List.getElem?_cons_zero, List.getElem?_cons_succ] at z0
  go_wp2_with fail
  refine (HN.out _).mono ?_
  rintro e w5 ⟨rfl, hb5⟩
  replace BR := Aside0.mk (blk_below BR.out hb5)
  replace BL := Aside0.mk (blk_below BL.out hb5)
  replace FF := Aside0.mk (blk_below FF.out hb5)
  have HB5 := Aside0.mk (below_step HB4.out hb5)
  clear hb5 HB4 z0
  have k1 := blk_cell BL.out 1
  have g1 := blk_frozen BL.out 1
  simp only [List.getElem?_toArray, List.getElem?_cons_zero, List.getElem?_cons_succ] at k1
  go_wp2_with fail
  replace BR := Aside0.mk (blk_far BR.out (p := ⟨w.heap.size + 1, 1, none⟩) (by simp) (.int .u8 op))
  replace FF := Aside0.mk (blk_far FF.out (p := ⟨w.heap.size + 1, 1, none⟩) (by have := FZ.out; simp; omega) (.int .u8 op))
  replace BL := Aside0.mk (blk_put BL.out 1 (.int .u8 op) (cs' := #[.string p1, .int .u8 op, .int .u8 0, .int .u8 0, .int .u8 0, .int .i32 0, .string q2]) rfl)
  replace HB5 := Aside0.mk (below_set HB5.out (g := w.heap.size + 1) (j := 1) (v := .int .u8 op) (by omega))
  clear k1 g1
  generalize w5.setCell ⟨w.heap.size + 1, 1, none⟩ (.int .u8 op) = w6 at *
  have HO := Aside0.mk (World.ownsRow_nil w6 w6.heap.size 3 1)
  have hNB := Nat.le_refl w6.heap.size
  have BN := Aside0.mk (blk_lt BL.out)
  have FN := Aside0.mk (blk_lt FF.out)
  generalize hNs : w6.heap.size = NB at HO BN FN
  rw [hNs] at hNB
  have HNB := Aside0.mk (Nat.le_of_eq hNs.symm)
  clear hNB hNs
  refine wp_loop_rounds 3 ?_
  rw [rounds_succ]
  have z0 := blk_cell FF.out 1
  simp only [List.getElem?_toArray, List.getElem?_cons_zero, List.getElem?_cons_succ] at z0
  go_wp2_with fail
  refine (HA0.out _).mono ?_
  rintro e y0 ⟨rfl, hb⟩
  replace BR := Aside0.mk (blk_below BR.out hb)
  replace BL := Aside0.mk (blk_below BL.out hb)
  replace FF := Aside0.mk (blk_below FF.out hb)
  replace HB5 := Aside0.mk (below_step HB5.out hb)
  replace HNB := Aside0.mk (Nat.le_trans HNB.out hb.size)
  replace HO := Aside0.mk (own_below HO.out hb)
  clear hb z0
  go_wp2_with (first | ((with_reducible refine gate_builtin (b := .append) (xs := #[.tmp 53, .tmp 55]) rfl ?_); at_builtin; refine print_append_num (w0 := y0) NB rfl (.tmp 53) (.tmp 55) 82 3 .i64 8 rfl Tryz.underlying82 (by kernel_rfl) (by decide) (.slice none 0 0) [] x0 rfl rfl HO.out (Below.refl _ _) HNB.out (by simp) ?_; intro v1 u0 hown hB hg hat; obtain ⟨g1_, c1_, rfl, hbg⟩ := own_shape (n := 1) hown (by decide)))
  clear HO
  have HO : Aside0 (u0.ownsRow NB 3 1 (.slice (some ⟨g1_, 0, none⟩) 1 c1_) 1 (nums .i64 [x0])) := ⟨hown⟩
  replace BR := Aside0.mk ((hB.block _ (Nat.lt_trans (by omega) BN.out)).trans BR.out)
  replace BL := Aside0.mk ((hB.block _ BN.out).trans BL.out)
  replace FF := Aside0.mk ((hB.block _ FN.out).trans FF.out)
  replace HB5 := Aside0.mk (HB5.out.trans (blw_leA hB (by have := BN.out; omega)))
  replace HNB := Aside0.mk (Nat.le_trans HNB.out hB.size)
  have HG1 := Aside0.mk hbg
  clear hown hB hg hat hbg
  rw [rounds_succ]
  have z1 := blk_cell FF.out 2
  simp only [List.getElem?_toArray, List.getElem?_cons_zero, List.getElem?_cons_succ] at z1
  go_wp2_with fail
  refine (HA1.out _).mono ?_
  rintro e y1 ⟨rfl, hb⟩
  replace BR := Aside0.mk (blk_below BR.out hb)
  replace BL := Aside0.mk (blk_below BL.out hb)
  replace FF := Aside0.mk (blk_below FF.out hb)
  replace HB5 := Aside0.mk (below_step HB5.out hb)
  replace HNB := Aside0.mk (Nat.le_trans HNB.out hb.size)
  replace HO := Aside0.mk (own_below HO.out hb)
  clear hb z1
  go_wp2_with (first | ((with_reducible refine gate_builtin (b := .append) (xs := #[.tmp 53, .tmp 55]) rfl ?_); at_builtin; refine print_append_num (w0 := y1) NB rfl (.tmp 53) (.tmp 55) 82 3 .i64 8 rfl Tryz.underlying82 (by kernel_rfl) (by decide) (.slice (some ⟨g1_, 0, none⟩) 1 c1_) [x0] x1 rfl rfl HO.out (Below.refl _ _) HNB.out (by simp) ?_; intro v2 u1 hown hB hg hat; obtain ⟨g2_, c2_, rfl, hbg⟩ := own_shape (n := 2) hown (by decide)))
  clear HO
  have HO : Aside0 (u1.ownsRow NB 3 1 (.slice (some ⟨g2_, 0, none⟩) 2 c2_) 2 (nums .i64 [x0, x1])) := ⟨hown⟩
  replace BR := Aside0.mk ((hB.block _ (Nat.lt_trans (by omega) BN.out)).trans BR.out)
  replace BL := Aside0.mk ((hB.block _ BN.out).trans BL.out)
  replace FF := Aside0.mk ((hB.block _ FN.out).trans FF.out)
  replace HB5 := Aside0.mk (HB5.out.trans (blw_leA hB (by have := BN.out; omega)))
  replace HNB := Aside0.mk (Nat.le_trans HNB.out hB.size)
  have HG2 := Aside0.mk hbg
  clear hown hB hg hat hbg
  rw [rounds_succ]
  go_wp2_with fail
  have q0 : u1.cell? ⟨g2_, 0, none⟩ = some (.int .i64 x0) := by simpa [Addr.add] using HO.out.cells (g := g2_) rfl 0 (.int .i64 x0) rfl
  have q1 : u1.cell? ⟨g2_, 1, none⟩ = some (.int .i64 x1) := by simpa [Addr.add] using HO.out.cells (g := g2_) rfl 1 (.int .i64 x1) rfl
  refine (HM.out _ (w.heap.size + 1) (w.heap.size + 1) c2_ g2_ _ _ BL.out (Nat.le_refl _) q0 q1 (by have := HG2.out; have := BN.out; omega)).mono ?_
  rintro e w9 ⟨rfl, hbl, hb9⟩
  replace BR := Aside0.mk ((hb9.block _ (by omega)).trans BR.out)
  replace BL := Aside0.mk hbl
  replace HB5 := Aside0.mk (HB5.out.trans (blw_leA hb9 (by omega)))
  clear hbl hb9 q0 q1
  have l0 := blk_cell BL.out 0
  have r0_ := blk_cell BR.out 0
  have s0_ := blk_frozen BR.out 0
  have l1 := blk_cell BL.out 1
  have r1_ := blk_cell BR.out 1
  have s1_ := blk_frozen BR.out 1
  have l2 := blk_cell BL.out 2
  have r2_ := blk_cell BR.out 2
  have s2_ := blk_frozen BR.out 2
  have l3 := blk_cell BL.out 3
  have r3_ := blk_cell BR.out 3
  have s3_ := blk_frozen BR.out 3
  have l4 := blk_cell BL.out 4
  have r4_ := blk_cell BR.out 4
  have s4_ := blk_frozen BR.out 4
  have l5 := blk_cell BL.out 5
  have r5_ := blk_cell BR.out 5
  have s5_ := blk_frozen BR.out 5
  have l6 := blk_cell BL.out 6
  have r6_ := blk_cell BR.out 6
  have s6_ := blk_frozen BR.out 6
  simp only [List.getElem?_toArray, List.getElem?_cons_zero, List.getElem?_cons_succ] at l0 l1 l2 l3 l4 l5 l6 r0_ r1_ r2_ r3_ r4_ r5_ r6_
  go_wp2_with fail
  refine bodyPost_ret (results_cell_row rfl _ _ w.heap.size 65 #[.string p1, .int .u8 op, .int .u8 r0, .int .u8 r1, .int .u8 r2, .int .i32 r3, .string q2] (0, 0) _ rfl (blk_put (blk_put (blk_put (blk_put (blk_put (blk_put (blk_put BR.out 0 (.string p1) (cs' := #[.string p1, .int .u8 0, .int .u8 0, .int .u8 0, .int .u8 0, .int .i32 0, .string ⟨#[]⟩]) rfl) 1 (.int .u8 op) (cs' := #[.string p1, .int .u8 op, .int .u8 0, .int .u8 0, .int .u8 0, .int .i32 0, .string ⟨#[]⟩]) rfl) 2 (.int .u8 r0) (cs' := #[.string p1, .int .u8 op, .int .u8 r0, .int .u8 0, .int .u8 0, .int .i32 0, .string ⟨#[]⟩]) rfl) 3 (.int .u8 r1) (cs' := #[.string p1, .int .u8 op, .int .u8 r0, .int .u8 r1, .int .u8 0, .int .i32 0, .string ⟨#[]⟩]) rfl) 4 (.int .u8 r2) (cs' := #[.string p1, .int .u8 op, .int .u8 r0, .int .u8 r1, .int .u8 r2, .int .i32 0, .string ⟨#[]⟩]) rfl) 5 (.int .i32 r3) (cs' := #[.string p1, .int .u8 op, .int .u8 r0, .int .u8 r1, .int .u8 r2, .int .i32 r3, .string ⟨#[]⟩]) rfl) 6 (.string q2) (cs' := #[.string p1, .int .u8 op, .int .u8 r0, .int .u8 r1, .int .u8 r2, .int .i32 r3, .string q2]) rfl) hu65 rfl (by kernel_rfl)) rfl ⟨rfl, (below_set (below_set (below_set (below_set (below_set (below_set (below_set HB5.out (Nat.le_refl _)) (Nat.le_refl _)) (Nat.le_refl _)) (Nat.le_refl _)) (Nat.le_refl _)) (Nat.le_refl _)) (Nat.le_refl _))⟩

set_option maxHeartbeats 4000000 in
set_option maxRecDepth 100000 in
theorem line_1_3 (w : World) (s p1 q1 p2 q2 f0 f1 f2 f3 : ByteArray) (is2 : Bool) (op x0 x1 x2 r0 r1 r2 r3 : Int) (hE : Env w)
    (hC1 : ∀ W, Env W → Calls Tryz.prog 89 #[.string s, .string ⟨#[58, 32]⟩] W fun e w' => e = .returned (.tuple #[.string p1, .string q1, .bool true]) ∧ Below W.heap.size W w')
    (hC2 : ∀ W, Env W → Calls Tryz.prog 89 #[.string q1, .string ⟨#[32, 45, 62, 32]⟩] W fun e w' => e = .returned (.tuple #[.string p2, .string q2, .bool is2]) ∧ Below W.heap.size W w')
    (hF : ∀ W, Env W → Calls Tryz.prog 90 #[.string p2] W fun e w' => e = .returned (.slice (some ⟨W.heap.size, 0, none⟩) 4 4) ∧ w' = W.alloc (.cells #[.string f0, .string f1, .string f2, .string f3] 9 (0, 0)))
    (hN : ∀ W, Calls Tryz.prog 91 #[.string f0] W fun e w' => e = .returned (.tuple #[.int .u8 op, .bool true]) ∧ Below W.heap.size W w')
    (hA0 : ∀ W, Calls Tryz.prog 92 #[.string f1] W fun e w' => e = .returned (.tuple #[.int .i64 x0, .nilIface]) ∧ Below W.heap.size W w')
    (hA1 : ∀ W, Calls Tryz.prog 92 #[.string f2] W fun e w' => e = .returned (.tuple #[.int .i64 x1, .nilIface]) ∧ Below W.heap.size W w')
    (hA2 : ∀ W, Calls Tryz.prog 92 #[.string f3] W fun e w' => e = .returned (.tuple #[.int .i64 x2, .nilIface]) ∧ Below W.heap.size W w')
    (hM : ∀ (W : World) (B b c g : Nat) (a t : ByteArray), W.heap[b]? = some (.cells #[.string a, .int .u8 op, .int .u8 0, .int .u8 0, .int .u8 0, .int .i32 0, .string t] 65 (0, 0)) → B ≤ b → W.cell? ⟨g, 0, none⟩ = some (.int .i64 x0) → W.cell? ⟨g, 1, none⟩ = some (.int .i64 x1) → W.cell? ⟨g, 2, none⟩ = some (.int .i64 x2) → g ≠ b → 
      Calls Tryz.prog 93 #[.pointer (some ⟨b, 1, none⟩), .slice (some ⟨g, 0, none⟩) 3 c] W fun e w' => e = .returned (.tuple #[]) ∧ w'.heap[b]? = some (.cells #[.string a, .int .u8 op, .int .u8 r0, .int .u8 r1, .int .u8 r2, .int .i32 r3, .string t] 65 (0, 0)) ∧ Below B W w') :
    Calls Tryz.prog 48 #[.string s] w fun e w' => e = .returned (.agg #[.string p1, .int .u8 op, .int .u8 r0, .int .u8 r1, .int .u8 r2, .int .i32 r3, .string q2]) ∧ Below w.heap.size w w' := by
  have HE := Aside0.mk hE
  have HC1 := Aside0.mk hC1
  have HC2 := Aside0.mk hC2
  have HF := Aside0.mk hF
  have HN := Aside0.mk hN
  have HA0 := Aside0.mk hA0
  have HA1 := Aside0.mk hA1
  have HA2 := Aside0.mk hA2
  have HM := Aside0.mk hM
  have HBa := Aside0.mk (below_alloc (below_alloc (Below.refl w.heap.size w) (.cells #[.string ⟨#[]⟩, .int .u8 0, .int .u8 0, .int .u8 0, .int .u8 0, .int .i32 0, .string ⟨#[]⟩] 65 (0, 0))) (.cells #[.string ⟨#[]⟩, .int .u8 0, .int .u8 0, .int .u8 0, .int .u8 0, .int .i32 0, .string ⟨#[]⟩] 65 (0, 0)))
  have BR := Aside0.mk (blk_alloc (blk_new w (.cells #[.string ⟨#[]⟩, .int .u8 0, .int .u8 0, .int .u8 0, .int .u8 0, .int .i32 0, .string ⟨#[]⟩] 65 (0, 0))) (.cells #[.string ⟨#[]⟩, .int .u8 0, .int .u8 0, .int .u8 0, .int .u8 0, .int .i32 0, .string ⟨#[]⟩] 65 (0, 0)))
  have bl0 := blk_new (w.alloc (.cells #[.string ⟨#[]⟩, .int .u8 0, .int .u8 0, .int .u8 0, .int .u8 0, .int .i32 0, .string ⟨#[]⟩] 65 (0, 0))) (.cells #[.string ⟨#[]⟩, .int .u8 0, .int .u8 0, .int .u8 0, .int .u8 0, .int .i32 0, .string ⟨#[]⟩] 65 (0, 0))
  rw [World.size_alloc] at bl0
  have BL := Aside0.mk bl0
  clear hE hC1 hC2 hF hN hA0 hA1 hA2 hM bl0
  have hu65 := Tryz.underlying65
  go_enter Tryz.func48, Tryz.ntmps48
  go_wp2_with fail
  refine (HC1.out _ (HE.out.below (by simpa using HBa.out))).mono ?_
  rintro e w1 ⟨rfl, hb1⟩
  have HB1 := Aside0.mk (below_step HBa.out hb1)
  replace BR := Aside0.mk (blk_below BR.out hb1)
  replace BL := Aside0.mk (blk_below BL.out hb1)
  clear hb1 HBa
  have k0 := blk_cell BL.out 0
  have g0 := blk_frozen BL.out 0
  simp only [List.getElem?_toArray, List.getElem?_cons_zero, List.getElem?_cons_succ] at k0
  go_wp2_with fail
  replace BR := Aside0.mk (blk_far BR.out (p := ⟨w.heap.size + 1, 0, none⟩) (by simp) (.string p1))
  replace BL := Aside0.mk (blk_put BL.out 0 (.string p1) (cs' := #[.string p1, .int .u8 0, .int .u8 0, .int .u8 0, .int .u8 0, .int .i32 0, .string ⟨#[]⟩]) rfl)
  replace HB1 := Aside0.mk (below_set HB1.out (g := w.heap.size + 1) (j := 0) (v := .string p1) (by omega))
  clear k0 g0
  generalize w1.setCell ⟨w.heap.size + 1, 0, none⟩ (.string p1) = w1 at *
  refine (HC2.out _ (HE.out.below HB1.out)).mono ?_
  rintro e w2 ⟨rfl, hb2⟩
  have HB2 := Aside0.mk (below_step HB1.out hb2)
  replace BR := Aside0.mk (blk_below BR.out hb2)
  replace BL := Aside0.mk (blk_below BL.out hb2)
  clear hb2 HB1
  have k6 := blk_cell BL.out 6
  have g6 := blk_frozen BL.out 6
  simp only [List.getElem?_toArray, List.getElem?_cons_zero, List.getElem?_cons_succ] at k6
  go_wp2_with fail
  replace BR := Aside0.mk (blk_far BR.out (p := ⟨w.heap.size + 1, 6, none⟩) (by simp) (.string q2))
  replace BL := Aside0.mk (blk_put BL.out 6 (.string q2) (cs' := #[.string p1, .int .u8 0, .int .u8 0, .int .u8 0, .int .u8 0, .int .i32 0, .string q2]) rfl)
  replace HB2 := Aside0.mk (below_set HB2.out (g := w.heap.size + 1) (j := 6) (v := .string q2) (by omega))
  clear k6 g6
  generalize w2.setCell ⟨w.heap.size + 1, 6, none⟩ (.string q2) = w3 at *
  refine (HF.out _ (HE.out.below HB2.out)).mono ?_
  rintro e w4 ⟨rfl, hw4⟩
  have FF := Aside0.mk (hw4 ▸ blk_new w3 (.cells #[.string f0, .string f1, .string f2, .string f3] 9 (0, 0)))
  have hb4 : Below w3.heap.size w3 w4 := hw4 ▸ below_1 w3 _
  replace BR := Aside0.mk (blk_below BR.out hb4)
  replace BL := Aside0.mk (blk_below BL.out hb4)
  have HB4 := Aside0.mk (below_step HB2.out hb4)
  have F3 : w.heap.size + 1 < w3.heap.size := by
    have := blk_lt BL.out
    rw [hw4] at this
    have h5 := HB2.out.size
    have h6 := blk_ne FF.out BL.out (by decide)
    simp at this; omega
  have FZ := Aside0.mk F3
  generalize w3.heap.size = F at *
  clear hb4 HB2 hw4 F3
  have z0 := blk_cell FF.out 0
  simp only [List.getElem?_toArray, List.getElem?_cons_zero, List.getElem?_cons_succ] at z0
  go_wp2_with fail
  refine (HN.out _).mono ?_
  rintro e w5 ⟨rfl, hb5⟩
  replace BR := Aside0.mk (blk_below BR.out hb5)
  replace BL := Aside0.mk (blk_below BL.out hb5)
  replace FF := Aside0.mk (blk_below FF.out hb5)
  have HB5 := Aside0.mk (below_step HB4.out hb5)
  clear hb5 HB4 z0
  have k1 := blk_cell BL.out 1
  have g1 := blk_frozen BL.out 1
  simp only [List.getElem?_toArray, List.getElem?_cons_zero, List.getElem?_cons_succ] at k1
  go_wp2_with fail
  replace BR := Aside0.mk (blk_far BR.out (p := ⟨w.heap.size + 1, 1, none⟩) (by simp) (.int .u8 op))
  replace FF := Aside0.mk (blk_far FF.out (p := ⟨w.heap.size + 1, 1, none⟩) (by have := FZ.out; simp; omega) (.int .u8 op))
  replace BL := Aside0.mk (blk_put BL.out 1 (.int .u8 op) (cs' := #[.string p1, .int .u8 op, .int .u8 0, .int .u8 0, .int .u8 0, .int .i32 0, .string q2]) rfl)
  replace HB5 := Aside0.mk (below_set HB5.out (g := w.heap.size + 1) (j := 1) (v := .int .u8 op) (by omega))
  clear k1 g1
  generalize w5.setCell ⟨w.heap.size + 1, 1, none⟩ (.int .u8 op) = w6 at *
  have HO := Aside0.mk (World.ownsRow_nil w6 w6.heap.size 3 1)
  have hNB := Nat.le_refl w6.heap.size
  have BN := Aside0.mk (blk_lt BL.out)
  have FN := Aside0.mk (blk_lt FF.out)
  generalize hNs : w6.heap.size = NB at HO BN FN
  rw [hNs] at hNB
  have HNB := Aside0.mk (Nat.le_of_eq hNs.symm)
  clear hNB hNs
  refine wp_loop_rounds 4 ?_
  rw [rounds_succ]
  have z0 := blk_cell FF.out 1
  simp only [List.getElem?_toArray, List.getElem?_cons_zero, List.getElem?_cons_succ] at z0
  go_wp2_with fail
  refine (HA0.out _).mono ?_
  rintro e y0 ⟨rfl, hb⟩
  replace BR := Aside0.mk (blk_below BR.out hb)
  replace BL := Aside0.mk (blk_below BL.out hb)
  replace FF := Aside0.mk (blk_below FF.out hb)
  replace HB5 := Aside0.mk (below_step HB5.out hb)
  replace HNB := Aside0.mk (Nat.le_trans HNB.out hb.size)
  replace HO := Aside0.mk (own_below HO.out hb)
  clear hb z0
  go_wp2_with (first | ((with_reducible refine gate_builtin (b := .append) (xs := #[.tmp 53, .tmp 55]) rfl ?_); at_builtin; refine print_append_num (w0 := y0) NB rfl (.tmp 53) (.tmp 55) 82 3 .i64 8 rfl Tryz.underlying82 (by kernel_rfl) (by decide) (.slice none 0 0) [] x0 rfl rfl HO.out (Below.refl _ _) HNB.out (by simp) ?_; intro v1 u0 hown hB hg hat; obtain ⟨g1_, c1_, rfl, hbg⟩ := own_shape (n := 1) hown (by decide)))
  clear HO
  have HO : Aside0 (u0.ownsRow NB 3 1 (.slice (some ⟨g1_, 0, none⟩) 1 c1_) 1 (nums .i64 [x0])) := ⟨hown⟩
  replace BR := Aside0.mk ((hB.block _ (Nat.lt_trans (by omega) BN.out)).trans BR.out)
  replace BL := Aside0.mk ((hB.block _ BN.out).trans BL.out)
  replace FF := Aside0.mk ((hB.block _ FN.out).trans FF.out)
  replace HB5 := Aside0.mk (HB5.out.trans (blw_leA hB (by have := BN.out; omega)))
  replace HNB := Aside0.mk (Nat.le_trans HNB.out hB.size)
  have HG1 := Aside0.mk hbg
  clear hown hB hg hat hbg
  rw [rounds_succ]
  have z1 := blk_cell FF.out 2
  simp only [List.getElem?_toArray, List.getElem?_cons_zero, List.getElem?_cons_succ] at z1
  go_wp2_with fail
  refine (HA1.out _).mono ?_
  rintro e y1 ⟨rfl, hb⟩
  replace BR := Aside0.mk (blk_below BR.out hb)
  replace BL := Aside0.mk (blk_below BL.out hb)
  replace FF := Aside0.mk (blk_below FF.out hb)
  replace HB5 := Aside0.mk (below_step HB5.out hb)
  replace HNB := Aside0.mk (Nat.le_trans HNB.out hb.size)
  replace HO := Aside0.mk (own_below HO.out hb)
  clear hb z1
  go_wp2_with (first | ((with_reducible refine gate_builtin (b := .append) (xs := #[.tmp 53, .tmp 55]) rfl ?_); at_builtin; refine print_append_num (w0 := y1) NB rfl (.tmp 53) (.tmp 55) 82 3 .i64 8 rfl Tryz.underlying82 (by kernel_rfl) (by decide) (.slice (some ⟨g1_, 0, none⟩) 1 c1_) [x0] x1 rfl rfl HO.out (Below.refl _ _) HNB.out (by simp) ?_; intro v2 u1 hown hB hg hat; obtain ⟨g2_, c2_, rfl, hbg⟩ := own_shape (n := 2) hown (by decide)))
  clear HO
  have HO : Aside0 (u1.ownsRow NB 3 1 (.slice (some ⟨g2_, 0, none⟩) 2 c2_) 2 (nums .i64 [x0, x1])) := ⟨hown⟩
  replace BR := Aside0.mk ((hB.block _ (Nat.lt_trans (by omega) BN.out)).trans BR.out)
  replace BL := Aside0.mk ((hB.block _ BN.out).trans BL.out)
  replace FF := Aside0.mk ((hB.block _ FN.out).trans FF.out)
  replace HB5 := Aside0.mk (HB5.out.trans (blw_leA hB (by have := BN.out; omega)))
  replace HNB := Aside0.mk (Nat.le_trans HNB.out hB.size)
  have HG2 := Aside0.mk hbg
  clear hown hB hg hat hbg
  rw [rounds_succ]
  have z2 := blk_cell FF.out 3
  simp only [List.getElem?_toArray, List.getElem?_cons_zero, List.getElem?_cons_succ] at z2
  go_wp2_with fail
  refine (HA2.out _).mono ?_
  rintro e y2 ⟨rfl, hb⟩
  replace BR := Aside0.mk (blk_below BR.out hb)
  replace BL := Aside0.mk (blk_below BL.out hb)
  replace FF := Aside0.mk (blk_below FF.out hb)
  replace HB5 := Aside0.mk (below_step HB5.out hb)
  replace HNB := Aside0.mk (Nat.le_trans HNB.out hb.size)
  replace HO := Aside0.mk (own_below HO.out hb)
  clear hb z2
  go_wp2_with (first | ((with_reducible refine gate_builtin (b := .append) (xs := #[.tmp 53, .tmp 55]) rfl ?_); at_builtin; refine print_append_num (w0 := y2) NB rfl (.tmp 53) (.tmp 55) 82 3 .i64 8 rfl Tryz.underlying82 (by kernel_rfl) (by decide) (.slice (some ⟨g2_, 0, none⟩) 2 c2_) [x0, x1] x2 rfl rfl HO.out (Below.refl _ _) HNB.out (by simp) ?_; intro v3 u2 hown hB hg hat; obtain ⟨g3_, c3_, rfl, hbg⟩ := own_shape (n := 3) hown (by decide)))
  clear HO
  have HO : Aside0 (u2.ownsRow NB 3 1 (.slice (some ⟨g3_, 0, none⟩) 3 c3_) 3 (nums .i64 [x0, x1, x2])) := ⟨hown⟩
  replace BR := Aside0.mk ((hB.block _ (Nat.lt_trans (by omega) BN.out)).trans BR.out)
  replace BL := Aside0.mk ((hB.block _ BN.out).trans BL.out)
  replace FF := Aside0.mk ((hB.block _ FN.out).trans FF.out)
  replace HB5 := Aside0.mk (HB5.out.trans (blw_leA hB (by have := BN.out; omega)))
  replace HNB := Aside0.mk (Nat.le_trans HNB.out hB.size)
  have HG3 := Aside0.mk hbg
  clear hown hB hg hat hbg
  rw [rounds_succ]
  go_wp2_with fail
  have q0 : u2.cell? ⟨g3_, 0, none⟩ = some (.int .i64 x0) := by simpa [Addr.add] using HO.out.cells (g := g3_) rfl 0 (.int .i64 x0) rfl
  have q1 : u2.cell? ⟨g3_, 1, none⟩ = some (.int .i64 x1) := by simpa [Addr.add] using HO.out.cells (g := g3_) rfl 1 (.int .i64 x1) rfl
  have q2 : u2.cell? ⟨g3_, 2, none⟩ = some (.int .i64 x2) := by simpa [Addr.add] using HO.out.cells (g := g3_) rfl 2 (.int .i64 x2) rfl
  refine (HM.out _ (w.heap.size + 1) (w.heap.size + 1) c3_ g3_ _ _ BL.out (Nat.le_refl _) q0 q1 q2 (by have := HG3.out; have := BN.out; omega)).mono ?_
  rintro e w9 ⟨rfl, hbl, hb9⟩
  replace BR := Aside0.mk ((hb9.block _ (by omega)).trans BR.out)
  replace BL := Aside0.mk hbl
  replace HB5 := Aside0.mk (HB5.out.trans (blw_leA hb9 (by omega)))
  clear hbl hb9 q0 q1 q2
  have l0 := blk_cell BL.out 0
  have r0_ := blk_cell BR.out 0
  have s0_ := blk_frozen BR.out 0
  have l1 := blk_cell BL.out 1
  have r1_ := blk_cell BR.out 1
  have s1_ := blk_frozen BR.out 1
  have l2 := blk_cell BL.out 2
  have r2_ := blk_cell BR.out 2
  have s2_ := blk_frozen BR.out 2
  have l3 := blk_cell BL.out 3
  have r3_ := blk_cell BR.out 3
  have s3_ := blk_frozen BR.out 3
  have l4 := blk_cell BL.out 4
  have r4_ := blk_cell BR.out 4
  have s4_ := blk_frozen BR.out 4
  have l5 := blk_cell BL.out 5
  have r5_ := blk_cell BR.out 5
  have s5_ := blk_frozen BR.out 5
  have l6 := blk_cell BL.out 6
  have r6_ := blk_cell BR.out 6
  have s6_ := blk_frozen BR.out 6
  simp only [List.getElem?_toArray, List.getElem?_cons_zero, List.getElem?_cons_succ] at l0 l1 l2 l3 l4 l5 l6 r0_ r1_ r2_ r3_ r4_ r5_ r6_
  go_wp2_with fail
  refine bodyPost_ret (results_cell_row rfl _ _ w.heap.size 65 #[.string p1, .int .u8 op, .int .u8 r0, .int .u8 r1, .int .u8 r2, .int .i32 r3, .string q2] (0, 0) _ rfl (blk_put (blk_put (blk_put (blk_put (blk_put (blk_put (blk_put BR.out 0 (.string p1) (cs' := #[.string p1, .int .u8 0, .int .u8 0, .int .u8 0, .int .u8 0, .int .i32 0, .string ⟨#[]⟩]) rfl) 1 (.int .u8 op) (cs' := #[.string p1, .int .u8 op, .int .u8 0, .int .u8 0, .int .u8 0, .int .i32 0, .string ⟨#[]⟩]) rfl) 2 (.int .u8 r0) (cs' := #[.string p1, .int .u8 op, .int .u8 r0, .int .u8 0, .int .u8 0, .int .i32 0, .string ⟨#[]⟩]) rfl) 3 (.int .u8 r1) (cs' := #[.string p1, .int .u8 op, .int .u8 r0, .int .u8 r1, .int .u8 0, .int .i32 0, .string ⟨#[]⟩]) rfl) 4 (.int .u8 r2) (cs' := #[.string p1, .int .u8 op, .int .u8 r0, .int .u8 r1, .int .u8 r2, .int .i32 0, .string ⟨#[]⟩]) rfl) 5 (.int .i32 r3) (cs' := #[.string p1, .int .u8 op, .int .u8 r0, .int .u8 r1, .int .u8 r2, .int .i32 r3, .string ⟨#[]⟩]) rfl) 6 (.string q2) (cs' := #[.string p1, .int .u8 op, .int .u8 r0, .int .u8 r1, .int .u8 r2, .int .i32 r3, .string q2]) rfl) hu65 rfl (by kernel_rfl)) rfl ⟨rfl, (below_set (below_set (below_set (below_set (below_set (below_set (below_set HB5.out (Nat.le_refl _)) (Nat.le_refl _)) (Nat.le_refl _)) (Nat.le_refl _)) (Nat.le_refl _)) (Nat.le_refl _)) (Nat.le_refl _))⟩
end Go.Proofs.YtfbmjfponkkaeaaGreatDoor.Num
