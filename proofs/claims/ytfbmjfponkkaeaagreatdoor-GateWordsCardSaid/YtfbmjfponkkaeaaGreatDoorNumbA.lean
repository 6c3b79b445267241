import Derived.Test.YtfbmjfponkkaeaaGreatDoorNum
import Derived.Laws.EntriesVeiled
import Derived.Deep.RegionHeld
namespace Go.Proofs.YtfbmjfponkkaeaaGreatDoor.Num
open Go.RowKit Go.Proofs.YtfbmjfponkkaeaaGreatDoorW.PrintWords Go.Proofs.YtfbmjfponkkaeaaGreatDoor.Pr
set_option linter.unusedVariables false
set_option linter.unusedSimpArgs false
theorem blw_leA {B B' : Nat} {w w' : World} (h : Below B w w') (hb : B' ≤ B) : Below B' w w' := ⟨h.os, h.tape, h.output, h.size, fun k hk => h.block k (by omega)⟩
set_option maxHeartbeats 4000000 in
set_option maxRecDepth 100000 in
theorem numbers_3_1 (w : World) (B b c g : Nat) (v1 v2 v3 v4 : Int) (a t : ByteArray) (x0 : Int)
    (hB : w.heap[b]? = some (.cells #[.string a, .int .u8 3, .int .u8 v1, .int .u8 v2, .int .u8 v3, .int .i32 v4, .string t] 65 (0, 0))) (hb : B ≤ b)
    (h0 : w.cell? ⟨g, 0, none⟩ = some (.int .i64 x0)) (hne : g ≠ b) (b0 : 0 ≤ x0 ∧ x0 ≤ 255) :
    Calls Tryz.prog 93 #[.pointer (some ⟨b, 1, none⟩), .slice (some ⟨g, 0, none⟩) 1 c] w fun e w' =>
      e = .returned (.tuple #[]) ∧ w'.heap[b]? = some (.cells #[.string a, .int .u8 3, .int .u8 x0, .int .u8 v2, .int .u8 v3, .int .i32 v4, .string t] 65 (0, 0)) ∧ Below B w w' := by
  have hB2 := blk_alloc (blk_alloc hB (.cells #[.pointer (some ⟨b, 1, none⟩)] 150 (0, 0))) (.cells #[.slice (some ⟨g, 0, none⟩) 1 c] 82 (0, 0))
  have hG2 := blk_alloc (blk_new w (.cells #[.pointer (some ⟨b, 1, none⟩)] 150 (0, 0))) (.cells #[.slice (some ⟨g, 0, none⟩) 1 c] 82 (0, 0))
  have hL2 := blk_new (w.alloc (.cells #[.pointer (some ⟨b, 1, none⟩)] 150 (0, 0))) (.cells #[.slice (some ⟨g, 0, none⟩) 1 c] 82 (0, 0))
  have hBb : Below w.heap.size w ((w.alloc (.cells #[.pointer (some ⟨b, 1, none⟩)] 150 (0, 0))).alloc (.cells #[.slice (some ⟨g, 0, none⟩) 1 c] 82 (0, 0))) := below_alloc (below_alloc (Below.refl _ _) _) _
  have hbw : b < w.heap.size := blk_lt hB
  have h0' := (hBb.cell (p := ⟨g, 0, none⟩) (World.block_lt_of_cell? w _ h0)).trans h0
  have k1 := blk_cell hB2 1
  simp only [List.getElem?_toArray, List.getElem?_cons_zero, List.getElem?_cons_succ] at k1
  have hz : (w.alloc (.cells #[.pointer (some ⟨b, 1, none⟩)] 150 (0, 0))).heap.size = w.heap.size + 1 := by simp
  rw [hz] at hL2
  have HB := Aside0.mk hB2
  have HG := Aside0.mk hG2
  have HL := Aside0.mk hL2
  have HBb := Aside0.mk hBb
  have Hb := Aside0.mk hb
  have HW := Aside0.mk hbw
  have HD := Aside0.mk hne
  have H0 := Aside0.mk h0'
  clear hB hb hne h0 h0' hB2 hG2 hL2 hBb hz hbw
  go_enter Tryz.func93, Tryz.ntmps93
  go_wp2_with fail
  have hgi := blk_cell HG.out 0
  simp only [List.getElem?_toArray, List.getElem?_cons_zero] at hgi
  clear k1
  have hs0 : ((w.alloc (.cells #[.pointer (some ⟨b, 1, none⟩)] 150 (0, 0))).alloc (.cells #[.slice (some ⟨g, 0, none⟩) 1 c] 82 (0, 0))).heap.size = w.heap.size + 1 + 1 := by simp
  generalize (w.alloc (.cells #[.pointer (some ⟨b, 1, none⟩)] 150 (0, 0))).alloc (.cells #[.slice (some ⟨g, 0, none⟩) 1 c] 82 (0, 0)) = W0 at *
  have hBw : B ≤ w.heap.size := by have := HW.out; have := Hb.out; omega
  have hBW : B ≤ W0.heap.size := Nat.le_trans hBw HBb.out.size
  have hbW : w.heap.size ≠ b := by have := HW.out; omega
  have hBe : ∀ o, Below W0.heap.size W0 (W0.alloc o) := fun o => below_alloc (Below.refl _ _) o
  have CC := Aside0.mk ((clos_11 (W0.alloc (.cells #[.pointer (some ⟨b, 2, none⟩)] 197 (0, 0))) B b (w.heap.size + 1 + 1) (w.heap.size + 1) w.heap.size c g 3 v1 v2 v3 v4 a t x0 (hs0 ▸ blk_new _ _) (blk_below HL.out (hBe (.cells #[.pointer (some ⟨b, 2, none⟩)] 197 (0, 0)))) (blk_below HG.out (hBe (.cells #[.pointer (some ⟨b, 2, none⟩)] 197 (0, 0)))) (blk_below HB.out (hBe (.cells #[.pointer (some ⟨b, 2, none⟩)] 197 (0, 0)))) Hb.out (((hBe (.cells #[.pointer (some ⟨b, 2, none⟩)] 197 (0, 0))).cell (p := ⟨g, 0, none⟩) (World.block_lt_of_cell? W0 _ H0.out)).trans H0.out) HD.out b0).mono (R' := fun e w' => e = .returned (.tuple #[]) ∧ w'.heap[b]? = some (.cells #[.string a, .int .u8 3, .int .u8 x0, .int .u8 v2, .int .u8 v3, .int .i32 v4, .string t] 65 (0, 0)) ∧ Below B w w') (fun e w' h => ⟨h.1, h.2.1, (blw_leA HBb.out hBw).trans ((blw_leA (hBe _) hBW).trans h.2.2.1)⟩))
  clear hBe HL HG HB HBb hbW hBW hBw H0
  refine CC.out.mono ?_
  rintro e w' ⟨rfl, hbk, hbl⟩
  go_wp2_with fail
  go_end0
  exact ⟨rfl, hbk, hbl⟩

set_option maxHeartbeats 4000000 in
set_option maxRecDepth 100000 in
theorem numbers_5_2 (w : World) (B b c g : Nat) (v1 v2 v3 v4 : Int) (a t : ByteArray) (x0 x1 : Int)
    (hB : w.heap[b]? = some (.cells #[.string a, .int .u8 5, .int .u8 v1, .int .u8 v2, .int .u8 v3, .int .i32 v4, .string t] 65 (0, 0))) (hb : B ≤ b)
    (h0 : w.cell? ⟨g, 0, none⟩ = some (.int .i64 x0)) (h1 : w.cell? ⟨g, 1, none⟩ = some (.int .i64 x1)) (hne : g ≠ b) (b0 : 0 ≤ x0 ∧ x0 ≤ 255) (b1 : 0 ≤ x1 ∧ x1 ≤ 255) :
    Calls Tryz.prog 93 #[.pointer (some ⟨b, 1, none⟩), .slice (some ⟨g, 0, none⟩) 2 c] w fun e w' =>
      e = .returned (.tuple #[]) ∧ w'.heap[b]? = some (.cells #[.string a, .int .u8 5, .int .u8 v1, .int .u8 x0, .int .u8 x1, .int .i32 v4, .string t] 65 (0, 0)) ∧ Below B w w' := by
  have hB2 := blk_alloc (blk_alloc hB (.cells #[.pointer (some ⟨b, 1, none⟩)] 150 (0, 0))) (.cells #[.slice (some ⟨g, 0, none⟩) 2 c] 82 (0, 0))
  have hG2 := blk_alloc (blk_new w (.cells #[.pointer (some ⟨b, 1, none⟩)] 150 (0, 0))) (.cells #[.slice (some ⟨g, 0, none⟩) 2 c] 82 (0, 0))
  have hL2 := blk_new (w.alloc (.cells #[.pointer (some ⟨b, 1, none⟩)] 150 (0, 0))) (.cells #[.slice (some ⟨g, 0, none⟩) 2 c] 82 (0, 0))
  have hBb : Below w.heap.size w ((w.alloc (.cells #[.pointer (some ⟨b, 1, none⟩)] 150 (0, 0))).alloc (.cells #[.slice (some ⟨g, 0, none⟩) 2 c] 82 (0, 0))) := below_alloc (below_alloc (Below.refl _ _) _) _
  have hbw : b < w.heap.size := blk_lt hB
  have h0' := (hBb.cell (p := ⟨g, 0, none⟩) (World.block_lt_of_cell? w _ h0)).trans h0
  have h1' := (hBb.cell (p := ⟨g, 1, none⟩) (World.block_lt_of_cell? w _ h1)).trans h1
  have k1 := blk_cell hB2 1
  simp only [List.getElem?_toArray, List.getElem?_cons_zero, List.getElem?_cons_succ] at k1
  have hz : (w.alloc (.cells #[.pointer (some ⟨b, 1, none⟩)] 150 (0, 0))).heap.size = w.heap.size + 1 := by simp
  rw [hz] at hL2
  have HB := Aside0.mk hB2
  have HG := Aside0.mk hG2
  have HL := Aside0.mk hL2
  have HBb := Aside0.mk hBb
  have Hb := Aside0.mk hb
  have HW := Aside0.mk hbw
  have HD := Aside0.mk hne
  have H0 := Aside0.mk h0'
  have H1 := Aside0.mk h1'
  clear hB hb hne h0 h0' h1 h1' hB2 hG2 hL2 hBb hz hbw
  go_enter Tryz.func93, Tryz.ntmps93
  go_wp2_with fail
  have hgi := blk_cell HG.out 0
  simp only [List.getElem?_toArray, List.getElem?_cons_zero] at hgi
  clear k1
  generalize (w.alloc (.cells #[.pointer (some ⟨b, 1, none⟩)] 150 (0, 0))).alloc (.cells #[.slice (some ⟨g, 0, none⟩) 2 c] 82 (0, 0)) = W0 at *
  have hgd : W0.drew.cell? ⟨w.heap.size, 0, none⟩ = some (.pointer (some ⟨b, 1, none⟩)) := hgi
  have hga : ∀ o, (W0.drew.alloc o).cell? ⟨w.heap.size, 0, none⟩ = some (.pointer (some ⟨b, 1, none⟩)) := fun o => by rw [World.cell?_alloc_some _ _ _ (by rw [hgd]; rfl)]; exact hgd
  have hgb : ∀ o, (W0.alloc o).drew.cell? ⟨w.heap.size, 0, none⟩ = some (.pointer (some ⟨b, 1, none⟩)) := hga
  have hBw : B ≤ w.heap.size := by have := HW.out; have := Hb.out; omega
  have hBW : B ≤ W0.heap.size := Nat.le_trans hBw HBb.out.size
  have hbW : w.heap.size ≠ b := by have := HW.out; omega
  have hBe : ∀ o, Below W0.heap.size W0 (W0.alloc o).drew := fun o => below_drew (below_alloc (Below.refl _ _) o)
  have CC := Aside0.mk ((clos_22rs (W0.alloc (.cells #[.pointer (some ⟨b, 3, none⟩), .pointer (some ⟨b, 4, none⟩)] 197 (0, 0))).drew B b W0.heap.size (w.heap.size + 1) w.heap.size c g 5 v1 v2 v3 v4 a t x0 x1 (blk_drew (blk_new _ _)) (blk_below HL.out (hBe (.cells #[.pointer (some ⟨b, 3, none⟩), .pointer (some ⟨b, 4, none⟩)] 197 (0, 0)))) (blk_below HG.out (hBe (.cells #[.pointer (some ⟨b, 3, none⟩), .pointer (some ⟨b, 4, none⟩)] 197 (0, 0)))) (blk_below HB.out (hBe (.cells #[.pointer (some ⟨b, 3, none⟩), .pointer (some ⟨b, 4, none⟩)] 197 (0, 0)))) Hb.out (((hBe (.cells #[.pointer (some ⟨b, 3, none⟩), .pointer (some ⟨b, 4, none⟩)] 197 (0, 0))).cell (p := ⟨g, 0, none⟩) (World.block_lt_of_cell? W0 _ H0.out)).trans H0.out) (((hBe (.cells #[.pointer (some ⟨b, 3, none⟩), .pointer (some ⟨b, 4, none⟩)] 197 (0, 0))).cell (p := ⟨g, 1, none⟩) (World.block_lt_of_cell? W0 _ H1.out)).trans H1.out) HD.out b0 b1).mono (R' := fun e w' => e = .returned (.tuple #[]) ∧ w'.heap[b]? = some (.cells #[.string a, .int .u8 5, .int .u8 v1, .int .u8 x0, .int .u8 x1, .int .i32 v4, .string t] 65 (0, 0)) ∧ Below B w w' ∧ w'.cell? ⟨w.heap.size, 0, none⟩ = some (.pointer (some ⟨b, 1, none⟩))) (fun e w' h => ⟨h.1, h.2.1, (blw_leA HBb.out hBw).trans ((blw_leA (hBe _) hBW).trans h.2.2.1), (World.cell?_of_block (h.2.2.2 _ hbW)).trans (hgb _)⟩))
  clear hBe HL HG HB HBb hbW hBW hBw H0 H1
  have HA := Aside0.mk hga
  have HB' := Aside0.mk hgb
  clear hga hgb
  go_region_held (fun w' => w'.cell? ⟨w.heap.size, 0, none⟩ = some (.pointer (some ⟨b, 1, none⟩))) (first | exact hgd | exact HA.out _ | exact HB'.out _ | assumption) (first | (refine CC.out.mono ?_; rintro e w' ⟨rfl, hbk, hbl, hce⟩))
  all_goals (go_end0; exact ⟨rfl, by assumption, by assumption⟩)

set_option maxHeartbeats 4000000 in
set_option maxRecDepth 100000 in
theorem numbers_7_2 (w : World) (B b c g : Nat) (v1 v2 v3 v4 : Int) (a t : ByteArray) (x0 x1 : Int)
    (hB : w.heap[b]? = some (.cells #[.string a, .int .u8 7, .int .u8 v1, .int .u8 v2, .int .u8 v3, .int .i32 v4, .string t] 65 (0, 0))) (hb : B ≤ b)
    (h0 : w.cell? ⟨g, 0, none⟩ = some (.int .i64 x0)) (h1 : w.cell? ⟨g, 1, none⟩ = some (.int .i64 x1)) (hne : g ≠ b) (b0 : 0 ≤ x0 ∧ x0 ≤ 255) (b1 : 0 ≤ x1 ∧ x1 ≤ 255) :
    Calls Tryz.prog 93 #[.pointer (some ⟨b, 1, none⟩), .slice (some ⟨g, 0, none⟩) 2 c] w fun e w' =>
      e = .returned (.tuple #[]) ∧ w'.heap[b]? = some (.cells #[.string a, .int .u8 7, .int .u8 v1, .int .u8 x0, .int .u8 x1, .int .i32 v4, .string t] 65 (0, 0)) ∧ Below B w w' := by
  have hB2 := blk_alloc (blk_alloc hB (.cells #[.pointer (some ⟨b, 1, none⟩)] 150 (0, 0))) (.cells #[.slice (some ⟨g, 0, none⟩) 2 c] 82 (0, 0))
  have hG2 := blk_alloc (blk_new w (.cells #[.pointer (some ⟨b, 1, none⟩)] 150 (0, 0))) (.cells #[.slice (some ⟨g, 0, none⟩) 2 c] 82 (0, 0))
  have hL2 := blk_new (w.alloc (.cells #[.pointer (some ⟨b, 1, none⟩)] 150 (0, 0))) (.cells #[.slice (some ⟨g, 0, none⟩) 2 c] 82 (0, 0))
  have hBb : Below w.heap.size w ((w.alloc (.cells #[.pointer (some ⟨b, 1, none⟩)] 150 (0, 0))).alloc (.cells #[.slice (some ⟨g, 0, none⟩) 2 c] 82 (0, 0))) := below_alloc (below_alloc (Below.refl _ _) _) _
  have hbw : b < w.heap.size := blk_lt hB
  have h0' := (hBb.cell (p := ⟨g, 0, none⟩) (World.block_lt_of_cell? w _ h0)).trans h0
  have h1' := (hBb.cell (p := ⟨g, 1, none⟩) (World.block_lt_of_cell? w _ h1)).trans h1
  have k1 := blk_cell hB2 1
  simp only [List.getElem?_toArray, List.getElem?_cons_zero, List.getElem?_cons_succ] at k1
  have hz : (w.alloc (.cells #[.pointer (some ⟨b, 1, none⟩)] 150 (0, 0))).heap.size = w.heap.size + 1 := by simp
  rw [hz] at hL2
  have HB := Aside0.mk hB2
  have HG := Aside0.mk hG2
  have HL := Aside0.mk hL2
  have HBb := Aside0.mk hBb
  have Hb := Aside0.mk hb
  have HW := Aside0.mk hbw
  have HD := Aside0.mk hne
  have H0 := Aside0.mk h0'
  have H1 := Aside0.mk h1'
  clear hB hb hne h0 h0' h1 h1' hB2 hG2 hL2 hBb hz hbw
  go_enter Tryz.func93, Tryz.ntmps93
  go_wp2_with fail
  have hgi := blk_cell HG.out 0
  simp only [List.getElem?_toArray, List.getElem?_cons_zero] at hgi
  clear k1
  generalize (w.alloc (.cells #[.pointer (some ⟨b, 1, none⟩)] 150 (0, 0))).alloc (.cells #[.slice (some ⟨g, 0, none⟩) 2 c] 82 (0, 0)) = W0 at *
  have hgd : W0.drew.cell? ⟨w.heap.size, 0, none⟩ = some (.pointer (some ⟨b, 1, none⟩)) := hgi
  have hga : ∀ o, (W0.drew.alloc o).cell? ⟨w.heap.size, 0, none⟩ = some (.pointer (some ⟨b, 1, none⟩)) := fun o => by rw [World.cell?_alloc_some _ _ _ (by rw [hgd]; rfl)]; exact hgd
  have hgb : ∀ o, (W0.alloc o).drew.cell? ⟨w.heap.size, 0, none⟩ = some (.pointer (some ⟨b, 1, none⟩)) := hga
  have hBw : B ≤ w.heap.size := by have := HW.out; have := Hb.out; omega
  have hBW : B ≤ W0.heap.size := Nat.le_trans hBw HBb.out.size
  have hbW : w.heap.size ≠ b := by have := HW.out; omega
  have hBe : ∀ o, Below W0.heap.size W0 (W0.alloc o).drew := fun o => below_drew (below_alloc (Below.refl _ _) o)
  have CC := Aside0.mk ((clos_22rs (W0.alloc (.cells #[.pointer (some ⟨b, 3, none⟩), .pointer (some ⟨b, 4, none⟩)] 197 (0, 0))).drew B b W0.heap.size (w.heap.size + 1) w.heap.size c g 7 v1 v2 v3 v4 a t x0 x1 (blk_drew (blk_new _ _)) (blk_below HL.out (hBe (.cells #[.pointer (some ⟨b, 3, none⟩), .pointer (some ⟨b, 4, none⟩)] 197 (0, 0)))) (blk_below HG.out (hBe (.cells #[.pointer (some ⟨b, 3, none⟩), .pointer (some ⟨b, 4, none⟩)] 197 (0, 0)))) (blk_below HB.out (hBe (.cells #[.pointer (some ⟨b, 3, none⟩), .pointer (some ⟨b, 4, none⟩)] 197 (0, 0)))) Hb.out (((hBe (.cells #[.pointer (some ⟨b, 3, none⟩), .pointer (some ⟨b, 4, none⟩)] 197 (0, 0))).cell (p := ⟨g, 0, none⟩) (World.block_lt_of_cell? W0 _ H0.out)).trans H0.out) (((hBe (.cells #[.pointer (some ⟨b, 3, none⟩), .pointer (some ⟨b, 4, none⟩)] 197 (0, 0))).cell (p := ⟨g, 1, none⟩) (World.block_lt_of_cell? W0 _ H1.out)).trans H1.out) HD.out b0 b1).mono (R' := fun e w' => e = .returned (.tuple #[]) ∧ w'.heap[b]? = some (.cells #[.string a, .int .u8 7, .int .u8 v1, .int .u8 x0, .int .u8 x1, .int .i32 v4, .string t] 65 (0, 0)) ∧ Below B w w' ∧ w'.cell? ⟨w.heap.size, 0, none⟩ = some (.pointer (some ⟨b, 1, none⟩))) (fun e w' h => ⟨h.1, h.2.1, (blw_leA HBb.out hBw).trans ((blw_leA (hBe _) hBW).trans h.2.2.1), (World.cell?_of_block (h.2.2.2 _ hbW)).trans (hgb _)⟩))
  clear hBe HL HG HB HBb hbW hBW hBw H0 H1
  have HA := Aside0.mk hga
  have HB' := Aside0.mk hgb
  clear hga hgb
  go_region_held (fun w' => w'.cell? ⟨w.heap.size, 0, none⟩ = some (.pointer (some ⟨b, 1, none⟩))) (first | exact hgd | exact HA.out _ | exact HB'.out _ | assumption) (first | (refine CC.out.mono ?_; rintro e w' ⟨rfl, hbk, hbl, hce⟩))
  all_goals (go_end0; exact ⟨rfl, by assumption, by assumption⟩)

set_option maxHeartbeats 4000000 in
set_option maxRecDepth 100000 in
theorem numbers_10_2 (w : World) (B b c g : Nat) (v1 v2 v3 v4 : Int) (a t : ByteArray) (x0 x1 : Int)
    (hB : w.heap[b]? = some (.cells #[.string a, .int .u8 10, .int .u8 v1, .int .u8 v2, .int .u8 v3, .int .i32 v4, .string t] 65 (0, 0))) (hb : B ≤ b)
    (h0 : w.cell? ⟨g, 0, none⟩ = some (.int .i64 x0)) (h1 : w.cell? ⟨g, 1, none⟩ = some (.int .i64 x1)) (hne : g ≠ b) (b0 : 0 ≤ x0 ∧ x0 ≤ 255) (b1 : 0 ≤ x1 ∧ x1 ≤ 255) :
    Calls Tryz.prog 93 #[.pointer (some ⟨b, 1, none⟩), .slice (some ⟨g, 0, none⟩) 2 c] w fun e w' =>
      e = .returned (.tuple #[]) ∧ w'.heap[b]? = some (.cells #[.string a, .int .u8 10, .int .u8 v1, .int .u8 x0, .int .u8 x1, .int .i32 v4, .string t] 65 (0, 0)) ∧ Below B w w' := by
  have hB2 := blk_alloc (blk_alloc hB (.cells #[.pointer (some ⟨b, 1, none⟩)] 150 (0, 0))) (.cells #[.slice (some ⟨g, 0, none⟩) 2 c] 82 (0, 0))
  have hG2 := blk_alloc (blk_new w (.cells #[.pointer (some ⟨b, 1, none⟩)] 150 (0, 0))) (.cells #[.slice (some ⟨g, 0, none⟩) 2 c] 82 (0, 0))
  have hL2 := blk_new (w.alloc (.cells #[.pointer (some ⟨b, 1, none⟩)] 150 (0, 0))) (.cells #[.slice (some ⟨g, 0, none⟩) 2 c] 82 (0, 0))
  have hBb : Below w.heap.size w ((w.alloc (.cells #[.pointer (some ⟨b, 1, none⟩)] 150 (0, 0))).alloc (.cells #[.slice (some ⟨g, 0, none⟩) 2 c] 82 (0, 0))) := below_alloc (below_alloc (Below.refl _ _) _) _
  have hbw : b < w.heap.size := blk_lt hB
  have h0' := (hBb.cell (p := ⟨g, 0, none⟩) (World.block_lt_of_cell? w _ h0)).trans h0
  have h1' := (hBb.cell (p := ⟨g, 1, none⟩) (World.block_lt_of_cell? w _ h1)).trans h1
  have k1 := blk_cell hB2 1
  simp only [List.getElem?_toArray, List.getElem?_cons_zero, List.getElem?_cons_succ] at k1
  have hz : (w.alloc (.cells #[.pointer (some ⟨b, 1, none⟩)] 150 (0, 0))).heap.size = w.heap.size + 1 := by simp
  rw [hz] at hL2
  have HB := Aside0.mk hB2
  have HG := Aside0.mk hG2
  have HL := Aside0.mk hL2
  have HBb := Aside0.mk hBb
  have Hb := Aside0.mk hb
  have HW := Aside0.mk hbw
  have HD := Aside0.mk hne
  have H0 := Aside0.mk h0'
  have H1 := Aside0.mk h1'
  clear hB hb hne h0 h0' h1 h1' hB2 hG2 hL2 hBb hz hbw
  go_enter Tryz.func93, Tryz.ntmps93
  go_wp2_with fail
  have hgi := blk_cell HG.out 0
  simp only [List.getElem?_toArray, List.getElem?_cons_zero] at hgi
  clear k1
  generalize (w.alloc (.cells #[.pointer (some ⟨b, 1, none⟩)] 150 (0, 0))).alloc (.cells #[.slice (some ⟨g, 0, none⟩) 2 c] 82 (0, 0)) = W0 at *
  have hgd : W0.drew.cell? ⟨w.heap.size, 0, none⟩ = some (.pointer (some ⟨b, 1, none⟩)) := hgi
  have hga : ∀ o, (W0.drew.alloc o).cell? ⟨w.heap.size, 0, none⟩ = some (.pointer (some ⟨b, 1, none⟩)) := fun o => by rw [World.cell?_alloc_some _ _ _ (by rw [hgd]; rfl)]; exact hgd
  have hgb : ∀ o, (W0.alloc o).drew.cell? ⟨w.heap.size, 0, none⟩ = some (.pointer (some ⟨b, 1, none⟩)) := hga
  have hBw : B ≤ w.heap.size := by have := HW.out; have := Hb.out; omega
  have hBW : B ≤ W0.heap.size := Nat.le_trans hBw HBb.out.size
  have hbW : w.heap.size ≠ b := by have := HW.out; omega
  have hBe : ∀ o, Below W0.heap.size W0 (W0.alloc o).drew := fun o => below_drew (below_alloc (Below.refl _ _) o)
  have CC := Aside0.mk ((clos_22rs (W0.alloc (.cells #[.pointer (some ⟨b, 3, none⟩), .pointer (some ⟨b, 4, none⟩)] 197 (0, 0))).drew B b W0.heap.size (w.heap.size + 1) w.heap.size c g 10 v1 v2 v3 v4 a t x0 x1 (blk_drew (blk_new _ _)) (blk_below HL.out (hBe (.cells #[.pointer (some ⟨b, 3, none⟩), .pointer (some ⟨b, 4, none⟩)] 197 (0, 0)))) (blk_below HG.out (hBe (.cells #[.pointer (some ⟨b, 3, none⟩), .pointer (some ⟨b, 4, none⟩)] 197 (0, 0)))) (blk_below HB.out (hBe (.cells #[.pointer (some ⟨b, 3, none⟩), .pointer (some ⟨b, 4, none⟩)] 197 (0, 0)))) Hb.out (((hBe (.cells #[.pointer (some ⟨b, 3, none⟩), .pointer (some ⟨b, 4, none⟩)] 197 (0, 0))).cell (p := ⟨g, 0, none⟩) (World.block_lt_of_cell? W0 _ H0.out)).trans H0.out) (((hBe (.cells #[.pointer (some ⟨b, 3, none⟩), .pointer (some ⟨b, 4, none⟩)] 197 (0, 0))).cell (p := ⟨g, 1, none⟩) (World.block_lt_of_cell? W0 _ H1.out)).trans H1.out) HD.out b0 b1).mono (R' := fun e w' => e = .returned (.tuple #[]) ∧ w'.heap[b]? = some (.cells #[.string a, .int .u8 10, .int .u8 v1, .int .u8 x0, .int .u8 x1, .int .i32 v4, .string t] 65 (0, 0)) ∧ Below B w w' ∧ w'.cell? ⟨w.heap.size, 0, none⟩ = some (.pointer (some ⟨b, 1, none⟩))) (fun e w' h => ⟨h.1, h.2.1, (blw_leA HBb.out hBw).trans ((blw_leA (hBe _) hBW).trans h.2.2.1), (World.cell?_of_block (h.2.2.2 _ hbW)).trans (hgb _)⟩))
  clear hBe HL HG HB HBb hbW hBW hBw H0 H1
  have HA := Aside0.mk hga
  have HB' := Aside0.mk hgb
  clear hga hgb
  go_region_held (fun w' => w'.cell? ⟨w.heap.size, 0, none⟩ = some (.pointer (some ⟨b, 1, none⟩))) (first | exact hgd | exact HA.out _ | exact HB'.out _ | assumption) (first | (refine CC.out.mono ?_; rintro e w' ⟨rfl, hbk, hbl, hce⟩))
  all_goals (go_end0; exact ⟨rfl, by assumption, by assumption⟩)

set_option maxHeartbeats 4000000 in
set_option maxRecDepth 100000 in
theorem numbers_14_3 (w : World) (B b c g : Nat) (v1 v2 v3 v4 : Int) (a t : ByteArray) (x0 x1 x2 : Int)
    (hB : w.heap[b]? = some (.cells #[.string a, .int .u8 14, .int .u8 v1, .int .u8 v2, .int .u8 v3, .int .i32 v4, .string t] 65 (0, 0))) (hb : B ≤ b)
    (h0 : w.cell? ⟨g, 0, none⟩ = some (.int .i64 x0)) (h1 : w.cell? ⟨g, 1, none⟩ = some (.int .i64 x1)) (h2 : w.cell? ⟨g, 2, none⟩ = some (.int .i64 x2)) (hne : g ≠ b) (b0 : 0 ≤ x0 ∧ x0 ≤ 255) (b1 : 0 ≤ x1 ∧ x1 ≤ 255) (b2 : -100000 ≤ x2 ∧ x2 ≤ 100000) :
    Calls Tryz.prog 93 #[.pointer (some ⟨b, 1, none⟩), .slice (some ⟨g, 0, none⟩) 3 c] w fun e w' =>
      e = .returned (.tuple #[]) ∧ w'.heap[b]? = some (.cells #[.string a, .int .u8 14, .int .u8 x0, .int .u8 x1, .int .u8 v3, .int .i32 x2, .string t] 65 (0, 0)) ∧ Below B w w' := by
  have hB2 := blk_alloc (blk_alloc hB (.cells #[.pointer (some ⟨b, 1, none⟩)] 150 (0, 0))) (.cells #[.slice (some ⟨g, 0, none⟩) 3 c] 82 (0, 0))
  have hG2 := blk_alloc (blk_new w (.cells #[.pointer (some ⟨b, 1, none⟩)] 150 (0, 0))) (.cells #[.slice (some ⟨g, 0, none⟩) 3 c] 82 (0, 0))
  have hL2 := blk_new (w.alloc (.cells #[.pointer (some ⟨b, 1, none⟩)] 150 (0, 0))) (.cells #[.slice (some ⟨g, 0, none⟩) 3 c] 82 (0, 0))
  have hBb : Below w.heap.size w ((w.alloc (.cells #[.pointer (some ⟨b, 1, none⟩)] 150 (0, 0))).alloc (.cells #[.slice (some ⟨g, 0, none⟩) 3 c] 82 (0, 0))) := below_alloc (below_alloc (Below.refl _ _) _) _
  have hbw : b < w.heap.size := blk_lt hB
  have h0' := (hBb.cell (p := ⟨g, 0, none⟩) (World.block_lt_of_cell? w _ h0)).trans h0
  have h1' := (hBb.cell (p := ⟨g, 1, none⟩) (World.block_lt_of_cell? w _ h1)).trans h1
  have h2' := (hBb.cell (p := ⟨g, 2, none⟩) (World.block_lt_of_cell? w _ h2)).trans h2
  have k1 := blk_cell hB2 1
  simp only [List.getElem?_toArray, List.getElem?_cons_zero, List.getElem?_cons_succ] at k1
  have hz : (w.alloc (.cells #[.pointer (some ⟨b, 1, none⟩)] 150 (0, 0))).heap.size = w.heap.size + 1 := by simp
  rw [hz] at hL2
  have HB := Aside0.mk hB2
  have HG := Aside0.mk hG2
  have HL := Aside0.mk hL2
  have HBb := Aside0.mk hBb
  have Hb := Aside0.mk hb
  have HW := Aside0.mk hbw
  have HD := Aside0.mk hne
  have H0 := Aside0.mk h0'
  have H1 := Aside0.mk h1'
  have H2 := Aside0.mk h2'
  clear hB hb hne h0 h0' h1 h1' h2 h2' hB2 hG2 hL2 hBb hz hbw
  go_enter Tryz.func93, Tryz.ntmps93
  go_wp2_with fail
  have hgi := blk_cell HG.out 0
  simp only [List.getElem?_toArray, List.getElem?_cons_zero] at hgi
  clear k1
  generalize (w.alloc (.cells #[.pointer (some ⟨b, 1, none⟩)] 150 (0, 0))).alloc (.cells #[.slice (some ⟨g, 0, none⟩) 3 c] 82 (0, 0)) = W0 at *
  have hgd : W0.drew.cell? ⟨w.heap.size, 0, none⟩ = some (.pointer (some ⟨b, 1, none⟩)) := hgi
  have hga : ∀ o, (W0.drew.alloc o).cell? ⟨w.heap.size, 0, none⟩ = some (.pointer (some ⟨b, 1, none⟩)) := fun o => by rw [World.cell?_alloc_some _ _ _ (by rw [hgd]; rfl)]; exact hgd
  have hgb : ∀ o, (W0.alloc o).drew.cell? ⟨w.heap.size, 0, none⟩ = some (.pointer (some ⟨b, 1, none⟩)) := hga
  have hBw : B ≤ w.heap.size := by have := HW.out; have := Hb.out; omega
  have hBW : B ≤ W0.heap.size := Nat.le_trans hBw HBb.out.size
  have hbW : w.heap.size ≠ b := by have := HW.out; omega
  have hBe : ∀ o, Below W0.heap.size W0 (W0.alloc o).drew := fun o => below_drew (below_alloc (Below.refl _ _) o)
  have CC := Aside0.mk ((clos_23 (W0.alloc (.cells #[.pointer (some ⟨b, 2, none⟩), .pointer (some ⟨b, 3, none⟩)] 197 (0, 0))).drew B b W0.heap.size (w.heap.size + 1) w.heap.size c g 14 v1 v2 v3 v4 a t x0 x1 x2 (blk_drew (blk_new _ _)) (blk_below HL.out (hBe (.cells #[.pointer (some ⟨b, 2, none⟩), .pointer (some ⟨b, 3, none⟩)] 197 (0, 0)))) (blk_below HG.out (hBe (.cells #[.pointer (some ⟨b, 2, none⟩), .pointer (some ⟨b, 3, none⟩)] 197 (0, 0)))) (blk_below HB.out (hBe (.cells #[.pointer (some ⟨b, 2, none⟩), .pointer (some ⟨b, 3, none⟩)] 197 (0, 0)))) Hb.out (((hBe (.cells #[.pointer (some ⟨b, 2, none⟩), .pointer (some ⟨b, 3, none⟩)] 197 (0, 0))).cell (p := ⟨g, 0, none⟩) (World.block_lt_of_cell? W0 _ H0.out)).trans H0.out) (((hBe (.cells #[.pointer (some ⟨b, 2, none⟩), .pointer (some ⟨b, 3, none⟩)] 197 (0, 0))).cell (p := ⟨g, 1, none⟩) (World.block_lt_of_cell? W0 _ H1.out)).trans H1.out) (((hBe (.cells #[.pointer (some ⟨b, 2, none⟩), .pointer (some ⟨b, 3, none⟩)] 197 (0, 0))).cell (p := ⟨g, 2, none⟩) (World.block_lt_of_cell? W0 _ H2.out)).trans H2.out) HD.out b0 b1 b2).mono (R' := fun e w' => e = .returned (.tuple #[]) ∧ w'.heap[b]? = some (.cells #[.string a, .int .u8 14, .int .u8 x0, .int .u8 x1, .int .u8 v3, .int .i32 x2, .string t] 65 (0, 0)) ∧ Below B w w' ∧ w'.cell? ⟨w.heap.size, 0, none⟩ = some (.pointer (some ⟨b, 1, none⟩))) (fun e w' h => ⟨h.1, h.2.1, (blw_leA HBb.out hBw).trans ((blw_leA (hBe _) hBW).trans h.2.2.1), (World.cell?_of_block (h.2.2.2 _ hbW)).trans (hgb _)⟩))
  clear hBe HL HG HB HBb hbW hBW hBw H0 H1 H2
  have HA := Aside0.mk hga
  have HB' := Aside0.mk hgb
  clear hga hgb
  go_region_held (fun w' => w'.cell? ⟨w.heap.size, 0, none⟩ = some (.pointer (some ⟨b, 1, none⟩))) (first | exact hgd | exact HA.out _ | exact HB'.out _ | assumption) (first | (refine CC.out.mono ?_; rintro e w' ⟨rfl, hbk, hbl, hce⟩))
  all_goals (go_end0; exact ⟨rfl, by assumption, by assumption⟩)

set_option maxHeartbeats 4000000 in
set_option maxRecDepth 100000 in
theorem numbers_21_3 (w : World) (B b c g : Nat) (v1 v2 v3 v4 : Int) (a t : ByteArray) (x0 x1 x2 : Int)
    (hB : w.heap[b]? = some (.cells #[.string a, .int .u8 21, .int .u8 v1, .int .u8 v2, .int .u8 v3, .int .i32 v4, .string t] 65 (0, 0))) (hb : B ≤ b)
    (h0 : w.cell? ⟨g, 0, none⟩ = some (.int .i64 x0)) (h1 : w.cell? ⟨g, 1, none⟩ = some (.int .i64 x1)) (h2 : w.cell? ⟨g, 2, none⟩ = some (.int .i64 x2)) (hne : g ≠ b) (b0 : 0 ≤ x0 ∧ x0 ≤ 255) (b1 : 0 ≤ x1 ∧ x1 ≤ 255) (b2 : -100000 ≤ x2 ∧ x2 ≤ 100000) :
    Calls Tryz.prog 93 #[.pointer (some ⟨b, 1, none⟩), .slice (some ⟨g, 0, none⟩) 3 c] w fun e w' =>
      e = .returned (.tuple #[]) ∧ w'.heap[b]? = some (.cells #[.string a, .int .u8 21, .int .u8 x0, .int .u8 x1, .int .u8 v3, .int .i32 x2, .string t] 65 (0, 0)) ∧ Below B w w' := by
  have hB2 := blk_alloc (blk_alloc hB (.cells #[.pointer (some ⟨b, 1, none⟩)] 150 (0, 0))) (.cells #[.slice (some ⟨g, 0, none⟩) 3 c] 82 (0, 0))
  have hG2 := blk_alloc (blk_new w (.cells #[.pointer (some ⟨b, 1, none⟩)] 150 (0, 0))) (.cells #[.slice (some ⟨g, 0, none⟩) 3 c] 82 (0, 0))
  have hL2 := blk_new (w.alloc (.cells #[.pointer (some ⟨b, 1, none⟩)] 150 (0, 0))) (.cells #[.slice (some ⟨g, 0, none⟩) 3 c] 82 (0, 0))
  have hBb : Below w.heap.size w ((w.alloc (.cells #[.pointer (some ⟨b, 1, none⟩)] 150 (0, 0))).alloc (.cells #[.slice (some ⟨g, 0, none⟩) 3 c] 82 (0, 0))) := below_alloc (below_alloc (Below.refl _ _) _) _
  have hbw : b < w.heap.size := blk_lt hB
  have h0' := (hBb.cell (p := ⟨g, 0, none⟩) (World.block_lt_of_cell? w _ h0)).trans h0
  have h1' := (hBb.cell (p := ⟨g, 1, none⟩) (World.block_lt_of_cell? w _ h1)).trans h1
  have h2' := (hBb.cell (p := ⟨g, 2, none⟩) (World.block_lt_of_cell? w _ h2)).trans h2
  have k1 := blk_cell hB2 1
  simp only [List.getElem?_toArray, List.getElem?_cons_zero, List.getElem?_cons_succ] at k1
  have hz : (w.alloc (.cells #[.pointer (some ⟨b, 1, none⟩)] 150 (0, 0))).heap.size = w.heap.size + 1 := by simp
  rw [hz] at hL2
  have HB := Aside0.mk hB2
  have HG := Aside0.mk hG2
  have HL := Aside0.mk hL2
  have HBb := Aside0.mk hBb
  have Hb := Aside0.mk hb
  have HW := Aside0.mk hbw
  have HD := Aside0.mk hne
  have H0 := Aside0.mk h0'
  have H1 := Aside0.mk h1'
  have H2 := Aside0.mk h2'
  clear hB hb hne h0 h0' h1 h1' h2 h2' hB2 hG2 hL2 hBb hz hbw
  go_enter Tryz.func93, Tryz.ntmps93
  go_wp2_with fail
  have hgi := blk_cell HG.out 0
  simp only [List.getElem?_toArray, List.getElem?_cons_zero] at hgi
  clear k1
  generalize (w.alloc (.cells #[.pointer (some ⟨b, 1, none⟩)] 150 (0, 0))).alloc (.cells #[.slice (some ⟨g, 0, none⟩) 3 c] 82 (0, 0)) = W0 at *
  have hgd : W0.drew.cell? ⟨w.heap.size, 0, none⟩ = some (.pointer (some ⟨b, 1, none⟩)) := hgi
  have hga : ∀ o, (W0.drew.alloc o).cell? ⟨w.heap.size, 0, none⟩ = some (.pointer (some ⟨b, 1, none⟩)) := fun o => by rw [World.cell?_alloc_some _ _ _ (by rw [hgd]; rfl)]; exact hgd
  have hgb : ∀ o, (W0.alloc o).drew.cell? ⟨w.heap.size, 0, none⟩ = some (.pointer (some ⟨b, 1, none⟩)) := hga
  have hBw : B ≤ w.heap.size := by have := HW.out; have := Hb.out; omega
  have hBW : B ≤ W0.heap.size := Nat.le_trans hBw HBb.out.size
  have hbW : w.heap.size ≠ b := by have := HW.out; omega
  have hBe : ∀ o, Below W0.heap.size W0 (W0.alloc o).drew := fun o => below_drew (below_alloc (Below.refl _ _) o)
  have CC := Aside0.mk ((clos_23 (W0.alloc (.cells #[.pointer (some ⟨b, 2, none⟩), .pointer (some ⟨b, 3, none⟩)] 197 (0, 0))).drew B b W0.heap.size (w.heap.size + 1) w.heap.size c g 21 v1 v2 v3 v4 a t x0 x1 x2 (blk_drew (blk_new _ _)) (blk_below HL.out (hBe (.cells #[.pointer (some ⟨b, 2, none⟩), .pointer (some ⟨b, 3, none⟩)] 197 (0, 0)))) (blk_below HG.out (hBe (.cells #[.pointer (some ⟨b, 2, none⟩), .pointer (some ⟨b, 3, none⟩)] 197 (0, 0)))) (blk_below HB.out (hBe (.cells #[.pointer (some ⟨b, 2, none⟩), .pointer (some ⟨b, 3, none⟩)] 197 (0, 0)))) Hb.out (((hBe (.cells #[.pointer (some ⟨b, 2, none⟩), .pointer (some ⟨b, 3, none⟩)] 197 (0, 0))).cell (p := ⟨g, 0, none⟩) (World.block_lt_of_cell? W0 _ H0.out)).trans H0.out) (((hBe (.cells #[.pointer (some ⟨b, 2, none⟩), .pointer (some ⟨b, 3, none⟩)] 197 (0, 0))).cell (p := ⟨g, 1, none⟩) (World.block_lt_of_cell? W0 _ H1.out)).trans H1.out) (((hBe (.cells #[.pointer (some ⟨b, 2, none⟩), .pointer (some ⟨b, 3, none⟩)] 197 (0, 0))).cell (p := ⟨g, 2, none⟩) (World.block_lt_of_cell? W0 _ H2.out)).trans H2.out) HD.out b0 b1 b2).mono (R' := fun e w' => e = .returned (.tuple #[]) ∧ w'.heap[b]? = some (.cells #[.string a, .int .u8 21, .int .u8 x0, .int .u8 x1, .int .u8 v3, .int .i32 x2, .string t] 65 (0, 0)) ∧ Below B w w' ∧ w'.cell? ⟨w.heap.size, 0, none⟩ = some (.pointer (some ⟨b, 1, none⟩))) (fun e w' h => ⟨h.1, h.2.1, (blw_leA HBb.out hBw).trans ((blw_leA (hBe _) hBW).trans h.2.2.1), (World.cell?_of_block (h.2.2.2 _ hbW)).trans (hgb _)⟩))
  clear hBe HL HG HB HBb hbW hBW hBw H0 H1 H2
  have HA := Aside0.mk hga
  have HB' := Aside0.mk hgb
  clear hga hgb
  go_region_held (fun w' => w'.cell? ⟨w.heap.size, 0, none⟩ = some (.pointer (some ⟨b, 1, none⟩))) (first | exact hgd | exact HA.out _ | exact HB'.out _ | assumption) (first | (refine CC.out.mono ?_; rintro e w' ⟨rfl, hbk, hbl, hce⟩))
  all_goals (go_end0; exact ⟨rfl, by assumption, by assumption⟩)

set_option maxHeartbeats 4000000 in
set_option maxRecDepth 100000 in
theorem numbers_28_3 (w : World) (B b c g : Nat) (v1 v2 v3 v4 : Int) (a t : ByteArray) (x0 x1 x2 : Int)
    (hB : w.heap[b]? = some (.cells #[.string a, .int .u8 28, .int .u8 v1, .int .u8 v2, .int .u8 v3, .int .i32 v4, .string t] 65 (0, 0))) (hb : B ≤ b)
    (h0 : w.cell? ⟨g, 0, none⟩ = some (.int .i64 x0)) (h1 : w.cell? ⟨g, 1, none⟩ = some (.int .i64 x1)) (h2 : w.cell? ⟨g, 2, none⟩ = some (.int .i64 x2)) (hne : g ≠ b) (b0 : 0 ≤ x0 ∧ x0 ≤ 255) (b1 : 0 ≤ x1 ∧ x1 ≤ 255) (b2 : -100000 ≤ x2 ∧ x2 ≤ 100000) :
    Calls Tryz.prog 93 #[.pointer (some ⟨b, 1, none⟩), .slice (some ⟨g, 0, none⟩) 3 c] w fun e w' =>
      e = .returned (.tuple #[]) ∧ w'.heap[b]? = some (.cells #[.string a, .int .u8 28, .int .u8 x0, .int .u8 x1, .int .u8 v3, .int .i32 x2, .string t] 65 (0, 0)) ∧ Below B w w' := by
  have hB2 := blk_alloc (blk_alloc hB (.cells #[.pointer (some ⟨b, 1, none⟩)] 150 (0, 0))) (.cells #[.slice (some ⟨g, 0, none⟩) 3 c] 82 (0, 0))
  have hG2 := blk_alloc (blk_new w (.cells #[.pointer (some ⟨b, 1, none⟩)] 150 (0, 0))) (.cells #[.slice (some ⟨g, 0, none⟩) 3 c] 82 (0, 0))
  have hL2 := blk_new (w.alloc (.cells #[.pointer (some ⟨b, 1, none⟩)] 150 (0, 0))) (.cells #[.slice (some ⟨g, 0, none⟩) 3 c] 82 (0, 0))
  have hBb : Below w.heap.size w ((w.alloc (.cells #[.pointer (some ⟨b, 1, none⟩)] 150 (0, 0))).alloc (.cells #[.slice (some ⟨g, 0, none⟩) 3 c] 82 (0, 0))) := below_alloc (below_alloc (Below.refl _ _) _) _
  have hbw : b < w.heap.size := blk_lt hB
  have h0' := (hBb.cell (p := ⟨g, 0, none⟩) (World.block_lt_of_cell? w _ h0)).trans h0
  have h1' := (hBb.cell (p := ⟨g, 1, none⟩) (World.block_lt_of_cell? w _ h1)).trans h1
  have h2' := (hBb.cell (p := ⟨g, 2, none⟩) (World.block_lt_of_cell? w _ h2)).trans h2
  have k1 := blk_cell hB2 1
  simp only [List.getElem?_toArray, List.getElem?_cons_zero, List.getElem?_cons_succ] at k1
  have hz : (w.alloc (.cells #[.pointer (some ⟨b, 1, none⟩)] 150 (0, 0))).heap.size = w.heap.size + 1 := by simp
  rw [hz] at hL2
  have HB := Aside0.mk hB2
  have HG := Aside0.mk hG2
  have HL := Aside0.mk hL2
  have HBb := Aside0.mk hBb
  have Hb := Aside0.mk hb
  have HW := Aside0.mk hbw
  have HD := Aside0.mk hne
  have H0 := Aside0.mk h0'
  have H1 := Aside0.mk h1'
  have H2 := Aside0.mk h2'
  clear hB hb hne h0 h0' h1 h1' h2 h2' hB2 hG2 hL2 hBb hz hbw
  go_enter Tryz.func93, Tryz.ntmps93
  go_wp2_with fail
  have hgi := blk_cell HG.out 0
  simp only [List.getElem?_toArray, List.getElem?_cons_zero] at hgi
  clear k1
  generalize (w.alloc (.cells #[.pointer (some ⟨b, 1, none⟩)] 150 (0, 0))).alloc (.cells #[.slice (some ⟨g, 0, none⟩) 3 c] 82 (0, 0)) = W0 at *
  have hgd : W0.drew.cell? ⟨w.heap.size, 0, none⟩ = some (.pointer (some ⟨b, 1, none⟩)) := hgi
  have hga : ∀ o, (W0.drew.alloc o).cell? ⟨w.heap.size, 0, none⟩ = some (.pointer (some ⟨b, 1, none⟩)) := fun o => by rw [World.cell?_alloc_some _ _ _ (by rw [hgd]; rfl)]; exact hgd
  have hgb : ∀ o, (W0.alloc o).drew.cell? ⟨w.heap.size, 0, none⟩ = some (.pointer (some ⟨b, 1, none⟩)) := hga
  have hBw : B ≤ w.heap.size := by have := HW.out; have := Hb.out; omega
  have hBW : B ≤ W0.heap.size := Nat.le_trans hBw HBb.out.size
  have hbW : w.heap.size ≠ b := by have := HW.out; omega
  have hBe : ∀ o, Below W0.heap.size W0 (W0.alloc o).drew := fun o => below_drew (below_alloc (Below.refl _ _) o)
  have CC := Aside0.mk ((clos_23 (W0.alloc (.cells #[.pointer (some ⟨b, 2, none⟩), .pointer (some ⟨b, 3, none⟩)] 197 (0, 0))).drew B b W0.heap.size (w.heap.size + 1) w.heap.size c g 28 v1 v2 v3 v4 a t x0 x1 x2 (blk_drew (blk_new _ _)) (blk_below HL.out (hBe (.cells #[.pointer (some ⟨b, 2, none⟩), .pointer (some ⟨b, 3, none⟩)] 197 (0, 0)))) (blk_below HG.out (hBe (.cells #[.pointer (some ⟨b, 2, none⟩), .pointer (some ⟨b, 3, none⟩)] 197 (0, 0)))) (blk_below HB.out (hBe (.cells #[.pointer (some ⟨b, 2, none⟩), .pointer (some ⟨b, 3, none⟩)] 197 (0, 0)))) Hb.out (((hBe (.cells #[.pointer (some ⟨b, 2, none⟩), .pointer (some ⟨b, 3, none⟩)] 197 (0, 0))).cell (p := ⟨g, 0, none⟩) (World.block_lt_of_cell? W0 _ H0.out)).trans H0.out) (((hBe (.cells #[.pointer (some ⟨b, 2, none⟩), .pointer (some ⟨b, 3, none⟩)] 197 (0, 0))).cell (p := ⟨g, 1, none⟩) (World.block_lt_of_cell? W0 _ H1.out)).trans H1.out) (((hBe (.cells #[.pointer (some ⟨b, 2, none⟩), .pointer (some ⟨b, 3, none⟩)] 197 (0, 0))).cell (p := ⟨g, 2, none⟩) (World.block_lt_of_cell? W0 _ H2.out)).trans H2.out) HD.out b0 b1 b2).mono (R' := fun e w' => e = .returned (.tuple #[]) ∧ w'.heap[b]? = some (.cells #[.string a, .int .u8 28, .int .u8 x0, .int .u8 x1, .int .u8 v3, .int .i32 x2, .string t] 65 (0, 0)) ∧ Below B w w' ∧ w'.cell? ⟨w.heap.size, 0, none⟩ = some (.pointer (some ⟨b, 1, none⟩))) (fun e w' h => ⟨h.1, h.2.1, (blw_leA HBb.out hBw).trans ((blw_leA (hBe _) hBW).trans h.2.2.1), (World.cell?_of_block (h.2.2.2 _ hbW)).trans (hgb _)⟩))
  clear hBe HL HG HB HBb hbW hBW hBw H0 H1 H2
  have HA := Aside0.mk hga
  have HB' := Aside0.mk hgb
  clear hga hgb
  go_region_held (fun w' => w'.cell? ⟨w.heap.size, 0, none⟩ = some (.pointer (some ⟨b, 1, none⟩))) (first | exact hgd | exact HA.out _ | exact HB'.out _ | assumption) (first | (refine CC.out.mono ?_; rintro e w' ⟨rfl, hbk, hbl, hce⟩))
  all_goals (go_end0; exact ⟨rfl, by assumption, by assumption⟩)

set_option maxHeartbeats 4000000 in
set_option maxRecDepth 100000 in
theorem numbers_31_3 (w : World) (B b c g : Nat) (v1 v2 v3 v4 : Int) (a t : ByteArray) (x0 x1 x2 : Int)
    (hB : w.heap[b]? = some (.cells #[.string a, .int .u8 31, .int .u8 v1, .int .u8 v2, .int .u8 v3, .int .i32 v4, .string t] 65 (0, 0))) (hb : B ≤ b)
    (h0 : w.cell? ⟨g, 0, none⟩ = some (.int .i64 x0)) (h1 : w.cell? ⟨g, 1, none⟩ = some (.int .i64 x1)) (h2 : w.cell? ⟨g, 2, none⟩ = some (.int .i64 x2)) (hne : g ≠ b) (b0 : 0 ≤ x0 ∧ x0 ≤ 255) (b1 : 0 ≤ x1 ∧ x1 ≤ 255) (b2 : 0 ≤ x2 ∧ x2 ≤ 255) :
    Calls Tryz.prog 93 #[.pointer (some ⟨b, 1, none⟩), .slice (some ⟨g, 0, none⟩) 3 c] w fun e w' =>
      e = .returned (.tuple #[]) ∧ w'.heap[b]? = some (.cells #[.string a, .int .u8 31, .int .u8 x0, .int .u8 x1, .int .u8 x2, .int .i32 v4, .string t] 65 (0, 0)) ∧ Below B w w' := by
  have hB2 := blk_alloc (blk_alloc hB (.cells #[.pointer (some ⟨b, 1, none⟩)] 150 (0, 0))) (.cells #[.slice (some ⟨g, 0, none⟩) 3 c] 82 (0, 0))
  have hG2 := blk_alloc (blk_new w (.cells #[.pointer (some ⟨b, 1, none⟩)] 150 (0, 0))) (.cells #[.slice (some ⟨g, 0, none⟩) 3 c] 82 (0, 0))
  have hL2 := blk_new (w.alloc (.cells #[.pointer (some ⟨b, 1, none⟩)] 150 (0, 0))) (.cells #[.slice (some ⟨g, 0, none⟩) 3 c] 82 (0, 0))
  have hBb : Below w.heap.size w ((w.alloc (.cells #[.pointer (some ⟨b, 1, none⟩)] 150 (0, 0))).alloc (.cells #[.slice (some ⟨g, 0, none⟩) 3 c] 82 (0, 0))) := below_alloc (below_alloc (Below.refl _ _) _) _
  have hbw : b < w.heap.size := blk_lt hB
  have h0' := (hBb.cell (p := ⟨g, 0, none⟩) (World.block_lt_of_cell? w _ h0)).trans h0
  have h1' := (hBb.cell (p := ⟨g, 1, none⟩) (World.block_lt_of_cell? w _ h1)).trans h1
  have h2' := (hBb.cell (p := ⟨g, 2, none⟩) (World.block_lt_of_cell? w _ h2)).trans h2
  have k1 := blk_cell hB2 1
  simp only [List.getElem?_toArray, List.getElem?_cons_zero, List.getElem?_cons_succ] at k1
  have hz : (w.alloc (.cells #[.pointer (some ⟨b, 1, none⟩)] 150 (0, 0))).heap.size = w.heap.size + 1 := by simp
  rw [hz] at hL2
  have HB := Aside0.mk hB2
  have HG := Aside0.mk hG2
  have HL := Aside0.mk hL2
  have HBb := Aside0.mk hBb
  have Hb := Aside0.mk hb
  have HW := Aside0.mk hbw
  have HD := Aside0.mk hne
  have H0 := Aside0.mk h0'
  have H1 := Aside0.mk h1'
  have H2 := Aside0.mk h2'
  clear hB hb hne h0 h0' h1 h1' h2 h2' hB2 hG2 hL2 hBb hz hbw
  go_enter Tryz.func93, Tryz.ntmps93
  go_wp2_with fail
  have hgi := blk_cell HG.out 0
  simp only [List.getElem?_toArray, List.getElem?_cons_zero] at hgi
  clear k1
  generalize (w.alloc (.cells #[.pointer (some ⟨b, 1, none⟩)] 150 (0, 0))).alloc (.cells #[.slice (some ⟨g, 0, none⟩) 3 c] 82 (0, 0)) = W0 at *
  have hgd : W0.drew.cell? ⟨w.heap.size, 0, none⟩ = some (.pointer (some ⟨b, 1, none⟩)) := hgi
  have hga : ∀ o, (W0.drew.alloc o).cell? ⟨w.heap.size, 0, none⟩ = some (.pointer (some ⟨b, 1, none⟩)) := fun o => by rw [World.cell?_alloc_some _ _ _ (by rw [hgd]; rfl)]; exact hgd
  have hgb : ∀ o, (W0.alloc o).drew.cell? ⟨w.heap.size, 0, none⟩ = some (.pointer (some ⟨b, 1, none⟩)) := hga
  have hBw : B ≤ w.heap.size := by have := HW.out; have := Hb.out; omega
  have hBW : B ≤ W0.heap.size := Nat.le_trans hBw HBb.out.size
  have hbW : w.heap.size ≠ b := by have := HW.out; omega
  have hBe : ∀ o, Below W0.heap.size W0 (W0.alloc o).drew := fun o => below_drew (below_alloc (Below.refl _ _) o)
  have CC := Aside0.mk ((clos_33 (W0.alloc (.cells #[.pointer (some ⟨b, 2, none⟩), .pointer (some ⟨b, 3, none⟩), .pointer (some ⟨b, 4, none⟩)] 197 (0, 0))).drew B b W0.heap.size (w.heap.size + 1) w.heap.size c g 31 v1 v2 v3 v4 a t x0 x1 x2 (blk_drew (blk_new _ _)) (blk_below HL.out (hBe (.cells #[.pointer (some ⟨b, 2, none⟩), .pointer (some ⟨b, 3, none⟩), .pointer (some ⟨b, 4, none⟩)] 197 (0, 0)))) (blk_below HG.out (hBe (.cells #[.pointer (some ⟨b, 2, none⟩), .pointer (some ⟨b, 3, none⟩), .pointer (some ⟨b, 4, none⟩)] 197 (0, 0)))) (blk_below HB.out (hBe (.cells #[.pointer (some ⟨b, 2, none⟩), .pointer (some ⟨b, 3, none⟩), .pointer (some ⟨b, 4, none⟩)] 197 (0, 0)))) Hb.out (((hBe (.cells #[.pointer (some ⟨b, 2, none⟩), .pointer (some ⟨b, 3, none⟩), .pointer (some ⟨b, 4, none⟩)] 197 (0, 0))).cell (p := ⟨g, 0, none⟩) (World.block_lt_of_cell? W0 _ H0.out)).trans H0.out) (((hBe (.cells #[.pointer (some ⟨b, 2, none⟩), .pointer (some ⟨b, 3, none⟩), .pointer (some ⟨b, 4, none⟩)] 197 (0, 0))).cell (p := ⟨g, 1, none⟩) (World.block_lt_of_cell? W0 _ H1.out)).trans H1.out) (((hBe (.cells #[.pointer (some ⟨b, 2, none⟩), .pointer (some ⟨b, 3, none⟩), .pointer (some ⟨b, 4, none⟩)] 197 (0, 0))).cell (p := ⟨g, 2, none⟩) (World.block_lt_of_cell? W0 _ H2.out)).trans H2.out) HD.out b0 b1 b2).mono (R' := fun e w' => e = .returned (.tuple #[]) ∧ w'.heap[b]? = some (.cells #[.string a, .int .u8 31, .int .u8 x0, .int .u8 x1, .int .u8 x2, .int .i32 v4, .string t] 65 (0, 0)) ∧ Below B w w' ∧ w'.cell? ⟨w.heap.size, 0, none⟩ = some (.pointer (some ⟨b, 1, none⟩))) (fun e w' h => ⟨h.1, h.2.1, (blw_leA HBb.out hBw).trans ((blw_leA (hBe _) hBW).trans h.2.2.1), (World.cell?_of_block (h.2.2.2 _ hbW)).trans (hgb _)⟩))
  clear hBe HL HG HB HBb hbW hBW hBw H0 H1 H2
  have HA := Aside0.mk hga
  have HB' := Aside0.mk hgb
  clear hga hgb
  go_region_held (fun w' => w'.cell? ⟨w.heap.size, 0, none⟩ = some (.pointer (some ⟨b, 1, none⟩))) (first | exact hgd | exact HA.out _ | exact HB'.out _ | assumption) (first | (refine CC.out.mono ?_; rintro e w' ⟨rfl, hbk, hbl, hce⟩))
  all_goals (go_end0; exact ⟨rfl, by assumption, by assumption⟩)

set_option maxHeartbeats 4000000 in
set_option maxRecDepth 100000 in
theorem numbers_48_3 (w : World) (B b c g : Nat) (v1 v2 v3 v4 : Int) (a t : ByteArray) (x0 x1 x2 : Int)
    (hB : w.heap[b]? = some (.cells #[.string a, .int .u8 48, .int .u8 v1, .int .u8 v2, .int .u8 v3, .int .i32 v4, .string t] 65 (0, 0))) (hb : B ≤ b)
    (h0 : w.cell? ⟨g, 0, none⟩ = some (.int .i64 x0)) (h1 : w.cell? ⟨g, 1, none⟩ = some (.int .i64 x1)) (h2 : w.cell? ⟨g, 2, none⟩ = some (.int .i64 x2)) (hne : g ≠ b) (b0 : 0 ≤ x0 ∧ x0 ≤ 255) (b1 : 0 ≤ x1 ∧ x1 ≤ 255) (b2 : -100000 ≤ x2 ∧ x2 ≤ 100000) :
    Calls Tryz.prog 93 #[.pointer (some ⟨b, 1, none⟩), .slice (some ⟨g, 0, none⟩) 3 c] w fun e w' =>
      e = .returned (.tuple #[]) ∧ w'.heap[b]? = some (.cells #[.string a, .int .u8 48, .int .u8 x0, .int .u8 x1, .int .u8 v3, .int .i32 x2, .string t] 65 (0, 0)) ∧ Below B w w' := by
  have hB2 := blk_alloc (blk_alloc hB (.cells #[.pointer (some ⟨b, 1, none⟩)] 150 (0, 0))) (.cells #[.slice (some ⟨g, 0, none⟩) 3 c] 82 (0, 0))
  have hG2 := blk_alloc (blk_new w (.cells #[.pointer (some ⟨b, 1, none⟩)] 150 (0, 0))) (.cells #[.slice (some ⟨g, 0, none⟩) 3 c] 82 (0, 0))
  have hL2 := blk_new (w.alloc (.cells #[.pointer (some ⟨b, 1, none⟩)] 150 (0, 0))) (.cells #[.slice (some ⟨g, 0, none⟩) 3 c] 82 (0, 0))
  have hBb : Below w.heap.size w ((w.alloc (.cells #[.pointer (some ⟨b, 1, none⟩)] 150 (0, 0))).alloc (.cells #[.slice (some ⟨g, 0, none⟩) 3 c] 82 (0, 0))) := below_alloc (below_alloc (Below.refl _ _) _) _
  have hbw : b < w.heap.size := blk_lt hB
  have h0' := (hBb.cell (p := ⟨g, 0, none⟩) (World.block_lt_of_cell? w _ h0)).trans h0
  have h1' := (hBb.cell (p := ⟨g, 1, none⟩) (World.block_lt_of_cell? w _ h1)).trans h1
  have h2' := (hBb.cell (p := ⟨g, 2, none⟩) (World.block_lt_of_cell? w _ h2)).trans h2
  have k1 := blk_cell hB2 1
  simp only [List.getElem?_toArray, List.getElem?_cons_zero, List.getElem?_cons_succ] at k1
  have hz : (w.alloc (.cells #[.pointer (some ⟨b, 1, none⟩)] 150 (0, 0))).heap.size = w.heap.size + 1 := by simp
  rw [hz] at hL2
  have HB := Aside0.mk hB2
  have HG := Aside0.mk hG2
  have HL := Aside0.mk hL2
  have HBb := Aside0.mk hBb
  have Hb := Aside0.mk hb
  have HW := Aside0.mk hbw
  have HD := Aside0.mk hne
  have H0 := Aside0.mk h0'
  have H1 := Aside0.mk h1'
  have H2 := Aside0.mk h2'
  clear hB hb hne h0 h0' h1 h1' h2 h2' hB2 hG2 hL2 hBb hz hbw
  go_enter Tryz.func93, Tryz.ntmps93
  go_wp2_with fail
  have hgi := blk_cell HG.out 0
  simp only [List.getElem?_toArray, List.getElem?_cons_zero] at hgi
  clear k1
  generalize (w.alloc (.cells #[.pointer (some ⟨b, 1, none⟩)] 150 (0, 0))).alloc (.cells #[.slice (some ⟨g, 0, none⟩) 3 c] 82 (0, 0)) = W0 at *
  have hgd : W0.drew.cell? ⟨w.heap.size, 0, none⟩ = some (.pointer (some ⟨b, 1, none⟩)) := hgi
  have hga : ∀ o, (W0.drew.alloc o).cell? ⟨w.heap.size, 0, none⟩ = some (.pointer (some ⟨b, 1, none⟩)) := fun o => by rw [World.cell?_alloc_some _ _ _ (by rw [hgd]; rfl)]; exact hgd
  have hgb : ∀ o, (W0.alloc o).drew.cell? ⟨w.heap.size, 0, none⟩ = some (.pointer (some ⟨b, 1, none⟩)) := hga
  have hBw : B ≤ w.heap.size := by have := HW.out; have := Hb.out; omega
  have hBW : B ≤ W0.heap.size := Nat.le_trans hBw HBb.out.size
  have hbW : w.heap.size ≠ b := by have := HW.out; omega
  have hBe : ∀ o, Below W0.heap.size W0 (W0.alloc o).drew := fun o => below_drew (below_alloc (Below.refl _ _) o)
  have CC := Aside0.mk ((clos_23 (W0.alloc (.cells #[.pointer (some ⟨b, 2, none⟩), .pointer (some ⟨b, 3, none⟩)] 197 (0, 0))).drew B b W0.heap.size (w.heap.size + 1) w.heap.size c g 48 v1 v2 v3 v4 a t x0 x1 x2 (blk_drew (blk_new _ _)) (blk_below HL.out (hBe (.cells #[.pointer (some ⟨b, 2, none⟩), .pointer (some ⟨b, 3, none⟩)] 197 (0, 0)))) (blk_below HG.out (hBe (.cells #[.pointer (some ⟨b, 2, none⟩), .pointer (some ⟨b, 3, none⟩)] 197 (0, 0)))) (blk_below HB.out (hBe (.cells #[.pointer (some ⟨b, 2, none⟩), .pointer (some ⟨b, 3, none⟩)] 197 (0, 0)))) Hb.out (((hBe (.cells #[.pointer (some ⟨b, 2, none⟩), .pointer (some ⟨b, 3, none⟩)] 197 (0, 0))).cell (p := ⟨g, 0, none⟩) (World.block_lt_of_cell? W0 _ H0.out)).trans H0.out) (((hBe (.cells #[.pointer (some ⟨b, 2, none⟩), .pointer (some ⟨b, 3, none⟩)] 197 (0, 0))).cell (p := ⟨g, 1, none⟩) (World.block_lt_of_cell? W0 _ H1.out)).trans H1.out) (((hBe (.cells #[.pointer (some ⟨b, 2, none⟩), .pointer (some ⟨b, 3, none⟩)] 197 (0, 0))).cell (p := ⟨g, 2, none⟩) (World.block_lt_of_cell? W0 _ H2.out)).trans H2.out) HD.out b0 b1 b2).mono (R' := fun e w' => e = .returned (.tuple #[]) ∧ w'.heap[b]? = some (.cells #[.string a, .int .u8 48, .int .u8 x0, .int .u8 x1, .int .u8 v3, .int .i32 x2, .string t] 65 (0, 0)) ∧ Below B w w' ∧ w'.cell? ⟨w.heap.size, 0, none⟩ = some (.pointer (some ⟨b, 1, none⟩))) (fun e w' h => ⟨h.1, h.2.1, (blw_leA HBb.out hBw).trans ((blw_leA (hBe _) hBW).trans h.2.2.1), (World.cell?_of_block (h.2.2.2 _ hbW)).trans (hgb _)⟩))
  clear hBe HL HG HB HBb hbW hBW hBw H0 H1 H2
  have HA := Aside0.mk hga
  have HB' := Aside0.mk hgb
  clear hga hgb
  go_region_held (fun w' => w'.cell? ⟨w.heap.size, 0, none⟩ = some (.pointer (some ⟨b, 1, none⟩))) (first | exact hgd | exact HA.out _ | exact HB'.out _ | assumption) (first | (refine CC.out.mono ?_; rintro e w' ⟨rfl, hbk, hbl, hce⟩))
  all_goals (go_end0; exact ⟨rfl, by assumption, by assumption⟩)

set_option maxHeartbeats 4000000 in
set_option maxRecDepth 100000 in
theorem numbers_52_2 (w : World) (B b c g : Nat) (v1 v2 v3 v4 : Int) (a t : ByteArray) (x0 x1 : Int)
    (hB : w.heap[b]? = some (.cells #[.string a, .int .u8 52, .int .u8 v1, .int .u8 v2, .int .u8 v3, .int .i32 v4, .string t] 65 (0, 0))) (hb : B ≤ b)
    (h0 : w.cell? ⟨g, 0, none⟩ = some (.int .i64 x0)) (h1 : w.cell? ⟨g, 1, none⟩ = some (.int .i64 x1)) (hne : g ≠ b) (b0 : 0 ≤ x0 ∧ x0 ≤ 255) (b1 : 0 ≤ x1 ∧ x1 ≤ 255) :
    Calls Tryz.prog 93 #[.pointer (some ⟨b, 1, none⟩), .slice (some ⟨g, 0, none⟩) 2 c] w fun e w' =>
      e = .returned (.tuple #[]) ∧ w'.heap[b]? = some (.cells #[.string a, .int .u8 52, .int .u8 x0, .int .u8 x1, .int .u8 v3, .int .i32 v4, .string t] 65 (0, 0)) ∧ Below B w w' := by
  have hB2 := blk_alloc (blk_alloc hB (.cells #[.pointer (some ⟨b, 1, none⟩)] 150 (0, 0))) (.cells #[.slice (some ⟨g, 0, none⟩) 2 c] 82 (0, 0))
  have hG2 := blk_alloc (blk_new w (.cells #[.pointer (some ⟨b, 1, none⟩)] 150 (0, 0))) (.cells #[.slice (some ⟨g, 0, none⟩) 2 c] 82 (0, 0))
  have hL2 := blk_new (w.alloc (.cells #[.pointer (some ⟨b, 1, none⟩)] 150 (0, 0))) (.cells #[.slice (some ⟨g, 0, none⟩) 2 c] 82 (0, 0))
  have hBb : Below w.heap.size w ((w.alloc (.cells #[.pointer (some ⟨b, 1, none⟩)] 150 (0, 0))).alloc (.cells #[.slice (some ⟨g, 0, none⟩) 2 c] 82 (0, 0))) := below_alloc (below_alloc (Below.refl _ _) _) _
  have hbw : b < w.heap.size := blk_lt hB
  have h0' := (hBb.cell (p := ⟨g, 0, none⟩) (World.block_lt_of_cell? w _ h0)).trans h0
  have h1' := (hBb.cell (p := ⟨g, 1, none⟩) (World.block_lt_of_cell? w _ h1)).trans h1
  have k1 := blk_cell hB2 1
  simp only [List.getElem?_toArray, List.getElem?_cons_zero, List.getElem?_cons_succ] at k1
  have hz : (w.alloc (.cells #[.pointer (some ⟨b, 1, none⟩)] 150 (0, 0))).heap.size = w.heap.size + 1 := by simp
  rw [hz] at hL2
  have HB := Aside0.mk hB2
  have HG := Aside0.mk hG2
  have HL := Aside0.mk hL2
  have HBb := Aside0.mk hBb
  have Hb := Aside0.mk hb
  have HW := Aside0.mk hbw
  have HD := Aside0.mk hne
  have H0 := Aside0.mk h0'
  have H1 := Aside0.mk h1'
  clear hB hb hne h0 h0' h1 h1' hB2 hG2 hL2 hBb hz hbw
  go_enter Tryz.func93, Tryz.ntmps93
  go_wp2_with fail
  have hgi := blk_cell HG.out 0
  simp only [List.getElem?_toArray, List.getElem?_cons_zero] at hgi
  clear k1
  generalize (w.alloc (.cells #[.pointer (some ⟨b, 1, none⟩)] 150 (0, 0))).alloc (.cells #[.slice (some ⟨g, 0, none⟩) 2 c] 82 (0, 0)) = W0 at *
  have hgd : W0.drew.cell? ⟨w.heap.size, 0, none⟩ = some (.pointer (some ⟨b, 1, none⟩)) := hgi
  have hga : ∀ o, (W0.drew.alloc o).cell? ⟨w.heap.size, 0, none⟩ = some (.pointer (some ⟨b, 1, none⟩)) := fun o => by rw [World.cell?_alloc_some _ _ _ (by rw [hgd]; rfl)]; exact hgd
  have hgb : ∀ o, (W0.alloc o).drew.cell? ⟨w.heap.size, 0, none⟩ = some (.pointer (some ⟨b, 1, none⟩)) := hga
  have hBw : B ≤ w.heap.size := by have := HW.out; have := Hb.out; omega
  have hBW : B ≤ W0.heap.size := Nat.le_trans hBw HBb.out.size
  have hbW : w.heap.size ≠ b := by have := HW.out; omega
  have hBe : ∀ o, Below W0.heap.size W0 (W0.alloc o).drew := fun o => below_drew (below_alloc (Below.refl _ _) o)
  have CC := Aside0.mk ((clos_22 (W0.alloc (.cells #[.pointer (some ⟨b, 2, none⟩), .pointer (some ⟨b, 3, none⟩)] 197 (0, 0))).drew B b W0.heap.size (w.heap.size + 1) w.heap.size c g 52 v1 v2 v3 v4 a t x0 x1 (blk_drew (blk_new _ _)) (blk_below HL.out (hBe (.cells #[.pointer (some ⟨b, 2, none⟩), .pointer (some ⟨b, 3, none⟩)] 197 (0, 0)))) (blk_below HG.out (hBe (.cells #[.pointer (some ⟨b, 2, none⟩), .pointer (some ⟨b, 3, none⟩)] 197 (0, 0)))) (blk_below HB.out (hBe (.cells #[.pointer (some ⟨b, 2, none⟩), .pointer (some ⟨b, 3, none⟩)] 197 (0, 0)))) Hb.out (((hBe (.cells #[.pointer (some ⟨b, 2, none⟩), .pointer (some ⟨b, 3, none⟩)] 197 (0, 0))).cell (p := ⟨g, 0, none⟩) (World.block_lt_of_cell? W0 _ H0.out)).trans H0.out) (((hBe (.cells #[.pointer (some ⟨b, 2, none⟩), .pointer (some ⟨b, 3, none⟩)] 197 (0, 0))).cell (p := ⟨g, 1, none⟩) (World.block_lt_of_cell? W0 _ H1.out)).trans H1.out) HD.out b0 b1).mono (R' := fun e w' => e = .returned (.tuple #[]) ∧ w'.heap[b]? = some (.cells #[.string a, .int .u8 52, .int .u8 x0, .int .u8 x1, .int .u8 v3, .int .i32 v4, .string t] 65 (0, 0)) ∧ Below B w w' ∧ w'.cell? ⟨w.heap.size, 0, none⟩ = some (.pointer (some ⟨b, 1, none⟩))) (fun e w' h => ⟨h.1, h.2.1, (blw_leA HBb.out hBw).trans ((blw_leA (hBe _) hBW).trans h.2.2.1), (World.cell?_of_block (h.2.2.2 _ hbW)).trans (hgb _)⟩))
  clear hBe HL HG HB HBb hbW hBW hBw H0 H1
  have HA := Aside0.mk hga
  have HB' := Aside0.mk hgb
  clear hga hgb
  go_region_held (fun w' => w'.cell? ⟨w.heap.size, 0, none⟩ = some (.pointer (some ⟨b, 1, none⟩))) (first | exact hgd | exact HA.out _ | exact HB'.out _ | assumption) (first | (refine CC.out.mono ?_; rintro e w' ⟨rfl, hbk, hbl, hce⟩))
  all_goals (go_end0; exact ⟨rfl, by assumption, by assumption⟩)

set_option maxHeartbeats 4000000 in
set_option maxRecDepth 100000 in
theorem numbers_54_3 (w : World) (B b c g : Nat) (v1 v2 v3 v4 : Int) (a t : ByteArray) (x0 x1 x2 : Int)
    (hB : w.heap[b]? = some (.cells #[.string a, .int .u8 54, .int .u8 v1, .int .u8 v2, .int .u8 v3, .int .i32 v4, .string t] 65 (0, 0))) (hb : B ≤ b)
    (h0 : w.cell? ⟨g, 0, none⟩ = some (.int .i64 x0)) (h1 : w.cell? ⟨g, 1, none⟩ = some (.int .i64 x1)) (h2 : w.cell? ⟨g, 2, none⟩ = some (.int .i64 x2)) (hne : g ≠ b) (b0 : 0 ≤ x0 ∧ x0 ≤ 255) (b1 : 0 ≤ x1 ∧ x1 ≤ 255) (b2 : 0 ≤ x2 ∧ x2 ≤ 255) :
    Calls Tryz.prog 93 #[.pointer (some ⟨b, 1, none⟩), .slice (some ⟨g, 0, none⟩) 3 c] w fun e w' =>
      e = .returned (.tuple #[]) ∧ w'.heap[b]? = some (.cells #[.string a, .int .u8 54, .int .u8 x0, .int .u8 x1, .int .u8 x2, .int .i32 v4, .string t] 65 (0, 0)) ∧ Below B w w' := by
  have hB2 := blk_alloc (blk_alloc hB (.cells #[.pointer (some ⟨b, 1, none⟩)] 150 (0, 0))) (.cells #[.slice (some ⟨g, 0, none⟩) 3 c] 82 (0, 0))
  have hG2 := blk_alloc (blk_new w (.cells #[.pointer (some ⟨b, 1, none⟩)] 150 (0, 0))) (.cells #[.slice (some ⟨g, 0, none⟩) 3 c] 82 (0, 0))
  have hL2 := blk_new (w.alloc (.cells #[.pointer (some ⟨b, 1, none⟩)] 150 (0, 0))) (.cells #[.slice (some ⟨g, 0, none⟩) 3 c] 82 (0, 0))
  have hBb : Below w.heap.size w ((w.alloc (.cells #[.pointer (some ⟨b, 1, none⟩)] 150 (0, 0))).alloc (.cells #[.slice (some ⟨g, 0, none⟩) 3 c] 82 (0, 0))) := below_alloc (below_alloc (Below.refl _ _) _) _
  have hbw : b < w.heap.size := blk_lt hB
  have h0' := (hBb.cell (p := ⟨g, 0, none⟩) (World.block_lt_of_cell? w _ h0)).trans h0
  have h1' := (hBb.cell (p := ⟨g, 1, none⟩) (World.block_lt_of_cell? w _ h1)).trans h1
  have h2' := (hBb.cell (p := ⟨g, 2, none⟩) (World.block_lt_of_cell? w _ h2)).trans h2
  have k1 := blk_cell hB2 1
  simp only [List.getElem?_toArray, List.getElem?_cons_zero, List.getElem?_cons_succ] at k1
  have hz : (w.alloc (.cells #[.pointer (some ⟨b, 1, none⟩)] 150 (0, 0))).heap.size = w.heap.size + 1 := by simp
  rw [hz] at hL2
  have HB := Aside0.mk hB2
  have HG := Aside0.mk hG2
  have HL := Aside0.mk hL2
  have HBb := Aside0.mk hBb
  have Hb := Aside0.mk hb
  have HW := Aside0.mk hbw
  have HD := Aside0.mk hne
  have H0 := Aside0.mk h0'
  have H1 := Aside0.mk h1'
  have H2 := Aside0.mk h2'
  clear hB hb hne h0 h0' h1 h1' h2 h2' hB2 hG2 hL2 hBb hz hbw
  go_enter Tryz.func93, Tryz.ntmps93
  go_wp2_with fail
  have hgi := blk_cell HG.out 0
  simp only [List.getElem?_toArray, List.getElem?_cons_zero] at hgi
  clear k1
  generalize (w.alloc (.cells #[.pointer (some ⟨b, 1, none⟩)] 150 (0, 0))).alloc (.cells #[.slice (some ⟨g, 0, none⟩) 3 c] 82 (0, 0)) = W0 at *
  have hgd : W0.drew.cell? ⟨w.heap.size, 0, none⟩ = some (.pointer (some ⟨b, 1, none⟩)) := hgi
  have hga : ∀ o, (W0.drew.alloc o).cell? ⟨w.heap.size, 0, none⟩ = some (.pointer (some ⟨b, 1, none⟩)) := fun o => by rw [World.cell?_alloc_some _ _ _ (by rw [hgd]; rfl)]; exact hgd
  have hgb : ∀ o, (W0.alloc o).drew.cell? ⟨w.heap.size, 0, none⟩ = some (.pointer (some ⟨b, 1, none⟩)) := hga
  have hBw : B ≤ w.heap.size := by have := HW.out; have := Hb.out; omega
  have hBW : B ≤ W0.heap.size := Nat.le_trans hBw HBb.out.size
  have hbW : w.heap.size ≠ b := by have := HW.out; omega
  have hBe : ∀ o, Below W0.heap.size W0 (W0.alloc o).drew := fun o => below_drew (below_alloc (Below.refl _ _) o)
  have CC := Aside0.mk ((clos_33 (W0.alloc (.cells #[.pointer (some ⟨b, 2, none⟩), .pointer (some ⟨b, 3, none⟩), .pointer (some ⟨b, 4, none⟩)] 197 (0, 0))).drew B b W0.heap.size (w.heap.size + 1) w.heap.size c g 54 v1 v2 v3 v4 a t x0 x1 x2 (blk_drew (blk_new _ _)) (blk_below HL.out (hBe (.cells #[.pointer (some ⟨b, 2, none⟩), .pointer (some ⟨b, 3, none⟩), .pointer (some ⟨b, 4, none⟩)] 197 (0, 0)))) (blk_below HG.out (hBe (.cells #[.pointer (some ⟨b, 2, none⟩), .pointer (some ⟨b, 3, none⟩), .pointer (some ⟨b, 4, none⟩)] 197 (0, 0)))) (blk_below HB.out (hBe (.cells #[.pointer (some ⟨b, 2, none⟩), .pointer (some ⟨b, 3, none⟩), .pointer (some ⟨b, 4, none⟩)] 197 (0, 0)))) Hb.out (((hBe (.cells #[.pointer (some ⟨b, 2, none⟩), .pointer (some ⟨b, 3, none⟩), .pointer (some ⟨b, 4, none⟩)] 197 (0, 0))).cell (p := ⟨g, 0, none⟩) (World.block_lt_of_cell? W0 _ H0.out)).trans H0.out) (((hBe (.cells #[.pointer (some ⟨b, 2, none⟩), .pointer (some ⟨b, 3, none⟩), .pointer (some ⟨b, 4, none⟩)] 197 (0, 0))).cell (p := ⟨g, 1, none⟩) (World.block_lt_of_cell? W0 _ H1.out)).trans H1.out) (((hBe (.cells #[.pointer (some ⟨b, 2, none⟩), .pointer (some ⟨b, 3, none⟩), .pointer (some ⟨b, 4, none⟩)] 197 (0, 0))).cell (p := ⟨g, 2, none⟩) (World.block_lt_of_cell? W0 _ H2.out)).trans H2.out) HD.out b0 b1 b2).mono (R' := fun e w' => e = .returned (.tuple #[]) ∧ w'.heap[b]? = some (.cells #[.string a, .int .u8 54, .int .u8 x0, .int .u8 x1, .int .u8 x2, .int .i32 v4, .string t] 65 (0, 0)) ∧ Below B w w' ∧ w'.cell? ⟨w.heap.size, 0, none⟩ = some (.pointer (some ⟨b, 1, none⟩))) (fun e w' h => ⟨h.1, h.2.1, (blw_leA HBb.out hBw).trans ((blw_leA (hBe _) hBW).trans h.2.2.1), (World.cell?_of_block (h.2.2.2 _ hbW)).trans (hgb _)⟩))
  clear hBe HL HG HB HBb hbW hBW hBw H0 H1 H2
  have HA := Aside0.mk hga
  have HB' := Aside0.mk hgb
  clear hga hgb
  go_region_held (fun w' => w'.cell? ⟨w.heap.size, 0, none⟩ = some (.pointer (some ⟨b, 1, none⟩))) (first | exact hgd | exact HA.out _ | exact HB'.out _ | assumption) (first | (refine CC.out.mono ?_; rintro e w' ⟨rfl, hbk, hbl, hce⟩))
  all_goals (go_end0; exact ⟨rfl, by assumption, by assumption⟩)

set_option maxHeartbeats 4000000 in
set_option maxRecDepth 100000 in
theorem numbers_58_2 (w : World) (B b c g : Nat) (v1 v2 v3 v4 : Int) (a t : ByteArray) (x0 x1 : Int)
    (hB : w.heap[b]? = some (.cells #[.string a, .int .u8 58, .int .u8 v1, .int .u8 v2, .int .u8 v3, .int .i32 v4, .string t] 65 (0, 0))) (hb : B ≤ b)
    (h0 : w.cell? ⟨g, 0, none⟩ = some (.int .i64 x0)) (h1 : w.cell? ⟨g, 1, none⟩ = some (.int .i64 x1)) (hne : g ≠ b) (b0 : 0 ≤ x0 ∧ x0 ≤ 255) (b1 : 0 ≤ x1 ∧ x1 ≤ 255) :
    Calls Tryz.prog 93 #[.pointer (some ⟨b, 1, none⟩), .slice (some ⟨g, 0, none⟩) 2 c] w fun e w' =>
      e = .returned (.tuple #[]) ∧ w'.heap[b]? = some (.cells #[.string a, .int .u8 58, .int .u8 x0, .int .u8 x1, .int .u8 v3, .int .i32 v4, .string t] 65 (0, 0)) ∧ Below B w w' := by
  have hB2 := blk_alloc (blk_alloc hB (.cells #[.pointer (some ⟨b, 1, none⟩)] 150 (0, 0))) (.cells #[.slice (some ⟨g, 0, none⟩) 2 c] 82 (0, 0))
  have hG2 := blk_alloc (blk_new w (.cells #[.pointer (some ⟨b, 1, none⟩)] 150 (0, 0))) (.cells #[.slice (some ⟨g, 0, none⟩) 2 c] 82 (0, 0))
  have hL2 := blk_new (w.alloc (.cells #[.pointer (some ⟨b, 1, none⟩)] 150 (0, 0))) (.cells #[.slice (some ⟨g, 0, none⟩) 2 c] 82 (0, 0))
  have hBb : Below w.heap.size w ((w.alloc (.cells #[.pointer (some ⟨b, 1, none⟩)] 150 (0, 0))).alloc (.cells #[.slice (some ⟨g, 0, none⟩) 2 c] 82 (0, 0))) := below_alloc (below_alloc (Below.refl _ _) _) _
  have hbw : b < w.heap.size := blk_lt hB
  have h0' := (hBb.cell (p := ⟨g, 0, none⟩) (World.block_lt_of_cell? w _ h0)).trans h0
  have h1' := (hBb.cell (p := ⟨g, 1, none⟩) (World.block_lt_of_cell? w _ h1)).trans h1
  have k1 := blk_cell hB2 1
  simp only [List.getElem?_toArray, List.getElem?_cons_zero, List.getElem?_cons_succ] at k1
  have hz : (w.alloc (.cells #[.pointer (some ⟨b, 1, none⟩)] 150 (0, 0))).heap.size = w.heap.size + 1 := by simp
  rw [hz] at hL2
  have HB := Aside0.mk hB2
  have HG := Aside0.mk hG2
  have HL := Aside0.mk hL2
  have HBb := Aside0.mk hBb
  have Hb := Aside0.mk hb
  have HW := Aside0.mk hbw
  have HD := Aside0.mk hne
  have H0 := Aside0.mk h0'
  have H1 := Aside0.mk h1'
  clear hB hb hne h0 h0' h1 h1' hB2 hG2 hL2 hBb hz hbw
  go_enter Tryz.func93, Tryz.ntmps93
  go_wp2_with fail
  have hgi := blk_cell HG.out 0
  simp only [List.getElem?_toArray, List.getElem?_cons_zero] at hgi
  clear k1
  generalize (w.alloc (.cells #[.pointer (some ⟨b, 1, none⟩)] 150 (0, 0))).alloc (.cells #[.slice (some ⟨g, 0, none⟩) 2 c] 82 (0, 0)) = W0 at *
  have hgd : W0.drew.cell? ⟨w.heap.size, 0, none⟩ = some (.pointer (some ⟨b, 1, none⟩)) := hgi
  have hga : ∀ o, (W0.drew.alloc o).cell? ⟨w.heap.size, 0, none⟩ = some (.pointer (some ⟨b, 1, none⟩)) := fun o => by rw [World.cell?_alloc_some _ _ _ (by rw [hgd]; rfl)]; exact hgd
  have hgb : ∀ o, (W0.alloc o).drew.cell? ⟨w.heap.size, 0, none⟩ = some (.pointer (some ⟨b, 1, none⟩)) := hga
  have hBw : B ≤ w.heap.size := by have := HW.out; have := Hb.out; omega
  have hBW : B ≤ W0.heap.size := Nat.le_trans hBw HBb.out.size
  have hbW : w.heap.size ≠ b := by have := HW.out; omega
  have hBe : ∀ o, Below W0.heap.size W0 (W0.alloc o).drew := fun o => below_drew (below_alloc (Below.refl _ _) o)
  have CC := Aside0.mk ((clos_22 (W0.alloc (.cells #[.pointer (some ⟨b, 2, none⟩), .pointer (some ⟨b, 3, none⟩)] 197 (0, 0))).drew B b W0.heap.size (w.heap.size + 1) w.heap.size c g 58 v1 v2 v3 v4 a t x0 x1 (blk_drew (blk_new _ _)) (blk_below HL.out (hBe (.cells #[.pointer (some ⟨b, 2, none⟩), .pointer (some ⟨b, 3, none⟩)] 197 (0, 0)))) (blk_below HG.out (hBe (.cells #[.pointer (some ⟨b, 2, none⟩), .pointer (some ⟨b, 3, none⟩)] 197 (0, 0)))) (blk_below HB.out (hBe (.cells #[.pointer (some ⟨b, 2, none⟩), .pointer (some ⟨b, 3, none⟩)] 197 (0, 0)))) Hb.out (((hBe (.cells #[.pointer (some ⟨b, 2, none⟩), .pointer (some ⟨b, 3, none⟩)] 197 (0, 0))).cell (p := ⟨g, 0, none⟩) (World.block_lt_of_cell? W0 _ H0.out)).trans H0.out) (((hBe (.cells #[.pointer (some ⟨b, 2, none⟩), .pointer (some ⟨b, 3, none⟩)] 197 (0, 0))).cell (p := ⟨g, 1, none⟩) (World.block_lt_of_cell? W0 _ H1.out)).trans H1.out) HD.out b0 b1).mono (R' := fun e w' => e = .returned (.tuple #[]) ∧ w'.heap[b]? = some (.cells #[.string a, .int .u8 58, .int .u8 x0, .int .u8 x1, .int .u8 v3, .int .i32 v4, .string t] 65 (0, 0)) ∧ Below B w w' ∧ w'.cell? ⟨w.heap.size, 0, none⟩ = some (.pointer (some ⟨b, 1, none⟩))) (fun e w' h => ⟨h.1, h.2.1, (blw_leA HBb.out hBw).trans ((blw_leA (hBe _) hBW).trans h.2.2.1), (World.cell?_of_block (h.2.2.2 _ hbW)).trans (hgb _)⟩))
  clear hBe HL HG HB HBb hbW hBW hBw H0 H1
  have HA := Aside0.mk hga
  have HB' := Aside0.mk hgb
  clear hga hgb
  go_region_held (fun w' => w'.cell? ⟨w.heap.size, 0, none⟩ = some (.pointer (some ⟨b, 1, none⟩))) (first | exact hgd | exact HA.out _ | exact HB'.out _ | assumption) (first | (refine CC.out.mono ?_; rintro e w' ⟨rfl, hbk, hbl, hce⟩))
  all_goals (go_end0; exact ⟨rfl, by assumption, by assumption⟩)

set_option maxHeartbeats 4000000 in
set_option maxRecDepth 100000 in
theorem numbers_60_2 (w : World) (B b c g : Nat) (v1 v2 v3 v4 : Int) (a t : ByteArray) (x0 x1 : Int)
    (hB : w.heap[b]? = some (.cells #[.string a, .int .u8 60, .int .u8 v1, .int .u8 v2, .int .u8 v3, .int .i32 v4, .string t] 65 (0, 0))) (hb : B ≤ b)
    (h0 : w.cell? ⟨g, 0, none⟩ = some (.int .i64 x0)) (h1 : w.cell? ⟨g, 1, none⟩ = some (.int .i64 x1)) (hne : g ≠ b) (b0 : 0 ≤ x0 ∧ x0 ≤ 255) (b1 : 0 ≤ x1 ∧ x1 ≤ 255) :
    Calls Tryz.prog 93 #[.pointer (some ⟨b, 1, none⟩), .slice (some ⟨g, 0, none⟩) 2 c] w fun e w' =>
      e = .returned (.tuple #[]) ∧ w'.heap[b]? = some (.cells #[.string a, .int .u8 60, .int .u8 x0, .int .u8 x1, .int .u8 v3, .int .i32 v4, .string t] 65 (0, 0)) ∧ Below B w w' := by
  have hB2 := blk_alloc (blk_alloc hB (.cells #[.pointer (some ⟨b, 1, none⟩)] 150 (0, 0))) (.cells #[.slice (some ⟨g, 0, none⟩) 2 c] 82 (0, 0))
  have hG2 := blk_alloc (blk_new w (.cells #[.pointer (some ⟨b, 1, none⟩)] 150 (0, 0))) (.cells #[.slice (some ⟨g, 0, none⟩) 2 c] 82 (0, 0))
  have hL2 := blk_new (w.alloc (.cells #[.pointer (some ⟨b, 1, none⟩)] 150 (0, 0))) (.cells #[.slice (some ⟨g, 0, none⟩) 2 c] 82 (0, 0))
  have hBb : Below w.heap.size w ((w.alloc (.cells #[.pointer (some ⟨b, 1, none⟩)] 150 (0, 0))).alloc (.cells #[.slice (some ⟨g, 0, none⟩) 2 c] 82 (0, 0))) := below_alloc (below_alloc (Below.refl _ _) _) _
  have hbw : b < w.heap.size := blk_lt hB
  have h0' := (hBb.cell (p := ⟨g, 0, none⟩) (World.block_lt_of_cell? w _ h0)).trans h0
  have h1' := (hBb.cell (p := ⟨g, 1, none⟩) (World.block_lt_of_cell? w _ h1)).trans h1
  have k1 := blk_cell hB2 1
  simp only [List.getElem?_toArray, List.getElem?_cons_zero, List.getElem?_cons_succ] at k1
  have hz : (w.alloc (.cells #[.pointer (some ⟨b, 1, none⟩)] 150 (0, 0))).heap.size = w.heap.size + 1 := by simp
  rw [hz] at hL2
  have HB := Aside0.mk hB2
  have HG := Aside0.mk hG2
  have HL := Aside0.mk hL2
  have HBb := Aside0.mk hBb
  have Hb := Aside0.mk hb
  have HW := Aside0.mk hbw
  have HD := Aside0.mk hne
  have H0 := Aside0.mk h0'
  have H1 := Aside0.mk h1'
  clear hB hb hne h0 h0' h1 h1' hB2 hG2 hL2 hBb hz hbw
  go_enter Tryz.func93, Tryz.ntmps93
  go_wp2_with fail
  have hgi := blk_cell HG.out 0
  simp only [List.getElem?_toArray, List.getElem?_cons_zero] at hgi
  clear k1
  generalize (w.alloc (.cells #[.pointer (some ⟨b, 1, none⟩)] 150 (0, 0))).alloc (.cells #[.slice (some ⟨g, 0, none⟩) 2 c] 82 (0, 0)) = W0 at *
  have hgd : W0.drew.cell? ⟨w.heap.size, 0, none⟩ = some (.pointer (some ⟨b, 1, none⟩)) := hgi
  have hga : ∀ o, (W0.drew.alloc o).cell? ⟨w.heap.size, 0, none⟩ = some (.pointer (some ⟨b, 1, none⟩)) := fun o => by rw [World.cell?_alloc_some _ _ _ (by rw [hgd]; rfl)]; exact hgd
  have hgb : ∀ o, (W0.alloc o).drew.cell? ⟨w.heap.size, 0, none⟩ = some (.pointer (some ⟨b, 1, none⟩)) := hga
  have hBw : B ≤ w.heap.size := by have := HW.out; have := Hb.out; omega
  have hBW : B ≤ W0.heap.size := Nat.le_trans hBw HBb.out.size
  have hbW : w.heap.size ≠ b := by have := HW.out; omega
  have hBe : ∀ o, Below W0.heap.size W0 (W0.alloc o).drew := fun o => below_drew (below_alloc (Below.refl _ _) o)
  have CC := Aside0.mk ((clos_22 (W0.alloc (.cells #[.pointer (some ⟨b, 2, none⟩), .pointer (some ⟨b, 3, none⟩)] 197 (0, 0))).drew B b W0.heap.size (w.heap.size + 1) w.heap.size c g 60 v1 v2 v3 v4 a t x0 x1 (blk_drew (blk_new _ _)) (blk_below HL.out (hBe (.cells #[.pointer (some ⟨b, 2, none⟩), .pointer (some ⟨b, 3, none⟩)] 197 (0, 0)))) (blk_below HG.out (hBe (.cells #[.pointer (some ⟨b, 2, none⟩), .pointer (some ⟨b, 3, none⟩)] 197 (0, 0)))) (blk_below HB.out (hBe (.cells #[.pointer (some ⟨b, 2, none⟩), .pointer (some ⟨b, 3, none⟩)] 197 (0, 0)))) Hb.out (((hBe (.cells #[.pointer (some ⟨b, 2, none⟩), .pointer (some ⟨b, 3, none⟩)] 197 (0, 0))).cell (p := ⟨g, 0, none⟩) (World.block_lt_of_cell? W0 _ H0.out)).trans H0.out) (((hBe (.cells #[.pointer (some ⟨b, 2, none⟩), .pointer (some ⟨b, 3, none⟩)] 197 (0, 0))).cell (p := ⟨g, 1, none⟩) (World.block_lt_of_cell? W0 _ H1.out)).trans H1.out) HD.out b0 b1).mono (R' := fun e w' => e = .returned (.tuple #[]) ∧ w'.heap[b]? = some (.cells #[.string a, .int .u8 60, .int .u8 x0, .int .u8 x1, .int .u8 v3, .int .i32 v4, .string t] 65 (0, 0)) ∧ Below B w w' ∧ w'.cell? ⟨w.heap.size, 0, none⟩ = some (.pointer (some ⟨b, 1, none⟩))) (fun e w' h => ⟨h.1, h.2.1, (blw_leA HBb.out hBw).trans ((blw_leA (hBe _) hBW).trans h.2.2.1), (World.cell?_of_block (h.2.2.2 _ hbW)).trans (hgb _)⟩))
  clear hBe HL HG HB HBb hbW hBW hBw H0 H1
  have HA := Aside0.mk hga
  have HB' := Aside0.mk hgb
  clear hga hgb
  go_region_held (fun w' => w'.cell? ⟨w.heap.size, 0, none⟩ = some (.pointer (some ⟨b, 1, none⟩))) (first | exact hgd | exact HA.out _ | exact HB'.out _ | assumption) (first | (refine CC.out.mono ?_; rintro e w' ⟨rfl, hbk, hbl, hce⟩))
  all_goals (go_end0; exact ⟨rfl, by assumption, by assumption⟩)

set_option maxHeartbeats 4000000 in
set_option maxRecDepth 100000 in
theorem numbers_62_2 (w : World) (B b c g : Nat) (v1 v2 v3 v4 : Int) (a t : ByteArray) (x0 x1 : Int)
    (hB : w.heap[b]? = some (.cells #[.string a, .int .u8 62, .int .u8 v1, .int .u8 v2, .int .u8 v3, .int .i32 v4, .string t] 65 (0, 0))) (hb : B ≤ b)
    (h0 : w.cell? ⟨g, 0, none⟩ = some (.int .i64 x0)) (h1 : w.cell? ⟨g, 1, none⟩ = some (.int .i64 x1)) (hne : g ≠ b) (b0 : 0 ≤ x0 ∧ x0 ≤ 255) (b1 : 0 ≤ x1 ∧ x1 ≤ 255) :
    Calls Tryz.prog 93 #[.pointer (some ⟨b, 1, none⟩), .slice (some ⟨g, 0, none⟩) 2 c] w fun e w' =>
      e = .returned (.tuple #[]) ∧ w'.heap[b]? = some (.cells #[.string a, .int .u8 62, .int .u8 x0, .int .u8 x1, .int .u8 v3, .int .i32 v4, .string t] 65 (0, 0)) ∧ Below B w w' := by
  have hB2 := blk_alloc (blk_alloc hB (.cells #[.pointer (some ⟨b, 1, none⟩)] 150 (0, 0))) (.cells #[.slice (some ⟨g, 0, none⟩) 2 c] 82 (0, 0))
  have hG2 := blk_alloc (blk_new w (.cells #[.pointer (some ⟨b, 1, none⟩)] 150 (0, 0))) (.cells #[.slice (some ⟨g, 0, none⟩) 2 c] 82 (0, 0))
  have hL2 := blk_new (w.alloc (.cells #[.pointer (some ⟨b, 1, none⟩)] 150 (0, 0))) (.cells #[.slice (some ⟨g, 0, none⟩) 2 c] 82 (0, 0))
  have hBb : Below w.heap.size w ((w.alloc (.cells #[.pointer (some ⟨b, 1, none⟩)] 150 (0, 0))).alloc (.cells #[.slice (some ⟨g, 0, none⟩) 2 c] 82 (0, 0))) := below_alloc (below_alloc (Below.refl _ _) _) _
  have hbw : b < w.heap.size := blk_lt hB
  have h0' := (hBb.cell (p := ⟨g, 0, none⟩) (World.block_lt_of_cell? w _ h0)).trans h0
  have h1' := (hBb.cell (p := ⟨g, 1, none⟩) (World.block_lt_of_cell? w _ h1)).trans h1
  have k1 := blk_cell hB2 1
  simp only [List.getElem?_toArray, List.getElem?_cons_zero, List.getElem?_cons_succ] at k1
  have hz : (w.alloc (.cells #[.pointer (some ⟨b, 1, none⟩)] 150 (0, 0))).heap.size = w.heap.size + 1 := by simp
  rw [hz] at hL2
  have HB := Aside0.mk hB2
  have HG := Aside0.mk hG2
  have HL := Aside0.mk hL2
  have HBb := Aside0.mk hBb
  have Hb := Aside0.mk hb
  have HW := Aside0.mk hbw
  have HD := Aside0.mk hne
  have H0 := Aside0.mk h0'
  have H1 := Aside0.mk h1'
  clear hB hb hne h0 h0' h1 h1' hB2 hG2 hL2 hBb hz hbw
  go_enter Tryz.func93, Tryz.ntmps93
  go_wp2_with fail
  have hgi := blk_cell HG.out 0
  simp only [List.getElem?_toArray, List.getElem?_cons_zero] at hgi
  clear k1
  generalize (w.alloc (.cells #[.pointer (some ⟨b, 1, none⟩)] 150 (0, 0))).alloc (.cells #[.slice (some ⟨g, 0, none⟩) 2 c] 82 (0, 0)) = W0 at *
  have hgd : W0.drew.cell? ⟨w.heap.size, 0, none⟩ = some (.pointer (some ⟨b, 1, none⟩)) := hgi
  have hga : ∀ o, (W0.drew.alloc o).cell? ⟨w.heap.size, 0, none⟩ = some (.pointer (some ⟨b, 1, none⟩)) := fun o => by rw [World.cell?_alloc_some _ _ _ (by rw [hgd]; rfl)]; exact hgd
  have hgb : ∀ o, (W0.alloc o).drew.cell? ⟨w.heap.size, 0, none⟩ = some (.pointer (some ⟨b, 1, none⟩)) := hga
  have hBw : B ≤ w.heap.size := by have := HW.out; have := Hb.out; omega
  have hBW : B ≤ W0.heap.size := Nat.le_trans hBw HBb.out.size
  have hbW : w.heap.size ≠ b := by have := HW.out; omega
  have hBe : ∀ o, Below W0.heap.size W0 (W0.alloc o).drew := fun o => below_drew (below_alloc (Below.refl _ _) o)
  have CC := Aside0.mk ((clos_22 (W0.alloc (.cells #[.pointer (some ⟨b, 2, none⟩), .pointer (some ⟨b, 3, none⟩)] 197 (0, 0))).drew B b W0.heap.size (w.heap.size + 1) w.heap.size c g 62 v1 v2 v3 v4 a t x0 x1 (blk_drew (blk_new _ _)) (blk_below HL.out (hBe (.cells #[.pointer (some ⟨b, 2, none⟩), .pointer (some ⟨b, 3, none⟩)] 197 (0, 0)))) (blk_below HG.out (hBe (.cells #[.pointer (some ⟨b, 2, none⟩), .pointer (some ⟨b, 3, none⟩)] 197 (0, 0)))) (blk_below HB.out (hBe (.cells #[.pointer (some ⟨b, 2, none⟩), .pointer (some ⟨b, 3, none⟩)] 197 (0, 0)))) Hb.out (((hBe (.cells #[.pointer (some ⟨b, 2, none⟩), .pointer (some ⟨b, 3, none⟩)] 197 (0, 0))).cell (p := ⟨g, 0, none⟩) (World.block_lt_of_cell? W0 _ H0.out)).trans H0.out) (((hBe (.cells #[.pointer (some ⟨b, 2, none⟩), .pointer (some ⟨b, 3, none⟩)] 197 (0, 0))).cell (p := ⟨g, 1, none⟩) (World.block_lt_of_cell? W0 _ H1.out)).trans H1.out) HD.out b0 b1).mono (R' := fun e w' => e = .returned (.tuple #[]) ∧ w'.heap[b]? = some (.cells #[.string a, .int .u8 62, .int .u8 x0, .int .u8 x1, .int .u8 v3, .int .i32 v4, .string t] 65 (0, 0)) ∧ Below B w w' ∧ w'.cell? ⟨w.heap.size, 0, none⟩ = some (.pointer (some ⟨b, 1, none⟩))) (fun e w' h => ⟨h.1, h.2.1, (blw_leA HBb.out hBw).trans ((blw_leA (hBe _) hBW).trans h.2.2.1), (World.cell?_of_block (h.2.2.2 _ hbW)).trans (hgb _)⟩))
  clear hBe HL HG HB HBb hbW hBW hBw H0 H1
  have HA := Aside0.mk hga
  have HB' := Aside0.mk hgb
  clear hga hgb
  go_region_held (fun w' => w'.cell? ⟨w.heap.size, 0, none⟩ = some (.pointer (some ⟨b, 1, none⟩))) (first | exact hgd | exact HA.out _ | exact HB'.out _ | assumption) (first | (refine CC.out.mono ?_; rintro e w' ⟨rfl, hbk, hbl, hce⟩))
  all_goals (go_end0; exact ⟨rfl, by assumption, by assumption⟩)

set_option maxHeartbeats 4000000 in
set_option maxRecDepth 100000 in
theorem numbers_64_2 (w : World) (B b c g : Nat) (v1 v2 v3 v4 : Int) (a t : ByteArray) (x0 x1 : Int)
    (hB : w.heap[b]? = some (.cells #[.string a, .int .u8 64, .int .u8 v1, .int .u8 v2, .int .u8 v3, .int .i32 v4, .string t] 65 (0, 0))) (hb : B ≤ b)
    (h0 : w.cell? ⟨g, 0, none⟩ = some (.int .i64 x0)) (h1 : w.cell? ⟨g, 1, none⟩ = some (.int .i64 x1)) (hne : g ≠ b) (b0 : 0 ≤ x0 ∧ x0 ≤ 255) (b1 : 0 ≤ x1 ∧ x1 ≤ 255) :
    Calls Tryz.prog 93 #[.pointer (some ⟨b, 1, none⟩), .slice (some ⟨g, 0, none⟩) 2 c] w fun e w' =>
      e = .returned (.tuple #[]) ∧ w'.heap[b]? = some (.cells #[.string a, .int .u8 64, .int .u8 x0, .int .u8 x1, .int .u8 v3, .int .i32 v4, .string t] 65 (0, 0)) ∧ Below B w w' := by
  have hB2 := blk_alloc (blk_alloc hB (.cells #[.pointer (some ⟨b, 1, none⟩)] 150 (0, 0))) (.cells #[.slice (some ⟨g, 0, none⟩) 2 c] 82 (0, 0))
  have hG2 := blk_alloc (blk_new w (.cells #[.pointer (some ⟨b, 1, none⟩)] 150 (0, 0))) (.cells #[.slice (some ⟨g, 0, none⟩) 2 c] 82 (0, 0))
  have hL2 := blk_new (w.alloc (.cells #[.pointer (some ⟨b, 1, none⟩)] 150 (0, 0))) (.cells #[.slice (some ⟨g, 0, none⟩) 2 c] 82 (0, 0))
  have hBb : Below w.heap.size w ((w.alloc (.cells #[.pointer (some ⟨b, 1, none⟩)] 150 (0, 0))).alloc (.cells #[.slice (some ⟨g, 0, none⟩) 2 c] 82 (0, 0))) := below_alloc (below_alloc (Below.refl _ _) _) _
  have hbw : b < w.heap.size := blk_lt hB
  have h0' := (hBb.cell (p := ⟨g, 0, none⟩) (World.block_lt_of_cell? w _ h0)).trans h0
  have h1' := (hBb.cell (p := ⟨g, 1, none⟩) (World.block_lt_of_cell? w _ h1)).trans h1
  have k1 := blk_cell hB2 1
  simp only [List.getElem?_toArray, List.getElem?_cons_zero, List.getElem?_cons_succ] at k1
  have hz : (w.alloc (.cells #[.pointer (some ⟨b, 1, none⟩)] 150 (0, 0))).heap.size = w.heap.size + 1 := by simp
  rw [hz] at hL2
  have HB := Aside0.mk hB2
  have HG := Aside0.mk hG2
  have HL := Aside0.mk hL2
  have HBb := Aside0.mk hBb
  have Hb := Aside0.mk hb
  have HW := Aside0.mk hbw
  have HD := Aside0.mk hne
  have H0 := Aside0.mk h0'
  have H1 := Aside0.mk h1'
  clear hB hb hne h0 h0' h1 h1' hB2 hG2 hL2 hBb hz hbw
  go_enter Tryz.func93, Tryz.ntmps93
  go_wp2_with fail
  have hgi := blk_cell HG.out 0
  simp only [List.getElem?_toArray, List.getElem?_cons_zero] at hgi
  clear k1
  generalize (w.alloc (.cells #[.pointer (some ⟨b, 1, none⟩)] 150 (0, 0))).alloc (.cells #[.slice (some ⟨g, 0, none⟩) 2 c] 82 (0, 0)) = W0 at *
  have hgd : W0.drew.cell? ⟨w.heap.size, 0, none⟩ = some (.pointer (some ⟨b, 1, none⟩)) := hgi
  have hga : ∀ o, (W0.drew.alloc o).cell? ⟨w.heap.size, 0, none⟩ = some (.pointer (some ⟨b, 1, none⟩)) := fun o => by rw [World.cell?_alloc_some _ _ _ (by rw [hgd]; rfl)]; exact hgd
  have hgb : ∀ o, (W0.alloc o).drew.cell? ⟨w.heap.size, 0, none⟩ = some (.pointer (some ⟨b, 1, none⟩)) := hga
  have hBw : B ≤ w.heap.size := by have := HW.out; have := Hb.out; omega
  have hBW : B ≤ W0.heap.size := Nat.le_trans hBw HBb.out.size
  have hbW : w.heap.size ≠ b := by have := HW.out; omega
  have hBe : ∀ o, Below W0.heap.size W0 (W0.alloc o).drew := fun o => below_drew (below_alloc (Below.refl _ _) o)
  have CC := Aside0.mk ((clos_22 (W0.alloc (.cells #[.pointer (some ⟨b, 2, none⟩), .pointer (some ⟨b, 3, none⟩)] 197 (0, 0))).drew B b W0.heap.size (w.heap.size + 1) w.heap.size c g 64 v1 v2 v3 v4 a t x0 x1 (blk_drew (blk_new _ _)) (blk_below HL.out (hBe (.cells #[.pointer (some ⟨b, 2, none⟩), .pointer (some ⟨b, 3, none⟩)] 197 (0, 0)))) (blk_below HG.out (hBe (.cells #[.pointer (some ⟨b, 2, none⟩), .pointer (some ⟨b, 3, none⟩)] 197 (0, 0)))) (blk_below HB.out (hBe (.cells #[.pointer (some ⟨b, 2, none⟩), .pointer (some ⟨b, 3, none⟩)] 197 (0, 0)))) Hb.out (((hBe (.cells #[.pointer (some ⟨b, 2, none⟩), .pointer (some ⟨b, 3, none⟩)] 197 (0, 0))).cell (p := ⟨g, 0, none⟩) (World.block_lt_of_cell? W0 _ H0.out)).trans H0.out) (((hBe (.cells #[.pointer (some ⟨b, 2, none⟩), .pointer (some ⟨b, 3, none⟩)] 197 (0, 0))).cell (p := ⟨g, 1, none⟩) (World.block_lt_of_cell? W0 _ H1.out)).trans H1.out) HD.out b0 b1).mono (R' := fun e w' => e = .returned (.tuple #[]) ∧ w'.heap[b]? = some (.cells #[.string a, .int .u8 64, .int .u8 x0, .int .u8 x1, .int .u8 v3, .int .i32 v4, .string t] 65 (0, 0)) ∧ Below B w w' ∧ w'.cell? ⟨w.heap.size, 0, none⟩ = some (.pointer (some ⟨b, 1, none⟩))) (fun e w' h => ⟨h.1, h.2.1, (blw_leA HBb.out hBw).trans ((blw_leA (hBe _) hBW).trans h.2.2.1), (World.cell?_of_block (h.2.2.2 _ hbW)).trans (hgb _)⟩))
  clear hBe HL HG HB HBb hbW hBW hBw H0 H1
  have HA := Aside0.mk hga
  have HB' := Aside0.mk hgb
  clear hga hgb
  go_region_held (fun w' => w'.cell? ⟨w.heap.size, 0, none⟩ = some (.pointer (some ⟨b, 1, none⟩))) (first | exact hgd | exact HA.out _ | exact HB'.out _ | assumption) (first | (refine CC.out.mono ?_; rintro e w' ⟨rfl, hbk, hbl, hce⟩))
  all_goals (go_end0; exact ⟨rfl, by assumption, by assumption⟩)

set_option maxHeartbeats 4000000 in
set_option maxRecDepth 100000 in
theorem numbers_68_0 (w : World) (B b c : Nat) (s0 : Option Addr) (v1 v2 v3 v4 : Int) (a t : ByteArray) 
    (hB : w.heap[b]? = some (.cells #[.string a, .int .u8 68, .int .u8 v1, .int .u8 v2, .int .u8 v3, .int .i32 v4, .string t] 65 (0, 0))) (hb : B ≤ b)
       :
    Calls Tryz.prog 93 #[.pointer (some ⟨b, 1, none⟩), .slice s0 0 c] w fun e w' =>
      e = .returned (.tuple #[]) ∧ w'.heap[b]? = some (.cells #[.string a, .int .u8 68, .int .u8 v1, .int .u8 v2, .int .u8 v3, .int .i32 v4, .string t] 65 (0, 0)) ∧ Below B w w' := by
  have hB2 := blk_alloc (blk_alloc hB (.cells #[.pointer (some ⟨b, 1, none⟩)] 150 (0, 0))) (.cells #[.slice s0 0 c] 82 (0, 0))
  have hG2 := blk_alloc (blk_new w (.cells #[.pointer (some ⟨b, 1, none⟩)] 150 (0, 0))) (.cells #[.slice s0 0 c] 82 (0, 0))
  have hL2 := blk_new (w.alloc (.cells #[.pointer (some ⟨b, 1, none⟩)] 150 (0, 0))) (.cells #[.slice s0 0 c] 82 (0, 0))
  have hBb : Below w.heap.size w ((w.alloc (.cells #[.pointer (some ⟨b, 1, none⟩)] 150 (0, 0))).alloc (.cells #[.slice s0 0 c] 82 (0, 0))) := below_alloc (below_alloc (Below.refl _ _) _) _
  have hbw : b < w.heap.size := blk_lt hB
  have k1 := blk_cell hB2 1
  simp only [List.getElem?_toArray, List.getElem?_cons_zero, List.getElem?_cons_succ] at k1
  have hz : (w.alloc (.cells #[.pointer (some ⟨b, 1, none⟩)] 150 (0, 0))).heap.size = w.heap.size + 1 := by simp
  rw [hz] at hL2
  have HB := Aside0.mk hB2
  have HG := Aside0.mk hG2
  have HL := Aside0.mk hL2
  have HBb := Aside0.mk hBb
  have Hb := Aside0.mk hb
  have HW := Aside0.mk hbw
  clear hB hb   hB2 hG2 hL2 hBb hz hbw
  go_enter Tryz.func93, Tryz.ntmps93
  go_wp2_with fail
  have hgi := blk_cell HG.out 0
  simp only [List.getElem?_toArray, List.getElem?_cons_zero] at hgi
  clear k1
  generalize (w.alloc (.cells #[.pointer (some ⟨b, 1, none⟩)] 150 (0, 0))).alloc (.cells #[.slice s0 0 c] 82 (0, 0)) = W0 at *
  have hBw : B ≤ w.heap.size := by have := HW.out; have := Hb.out; omega
  have hBW : B ≤ W0.heap.size := Nat.le_trans hBw HBb.out.size
  have hbW : w.heap.size ≠ b := by have := HW.out; omega
  have CC := Aside0.mk ((clos_00 W0 B b (w.heap.size + 1) w.heap.size c s0 68 v1 v2 v3 v4 a t   HL.out HG.out HB.out Hb.out   ).mono (R' := fun e w' => e = .returned (.tuple #[]) ∧ w'.heap[b]? = some (.cells #[.string a, .int .u8 68, .int .u8 v1, .int .u8 v2, .int .u8 v3, .int .i32 v4, .string t] 65 (0, 0)) ∧ Below B w w') (fun e w' h => ⟨h.1, h.2.1, (blw_leA HBb.out hBw).trans h.2.2.1⟩))
  clear  HL HG HB HBb hbW hBW hBw 
  refine CC.out.mono ?_
  rintro e w' ⟨rfl, hbk, hbl⟩
  go_wp2_with fail
  go_end0
  exact ⟨rfl, hbk, hbl⟩

end Go.Proofs.YtfbmjfponkkaeaaGreatDoor.Num
