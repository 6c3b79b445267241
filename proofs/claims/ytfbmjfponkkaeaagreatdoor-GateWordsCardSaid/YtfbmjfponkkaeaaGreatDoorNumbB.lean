import Derived.Test.YtfbmjfponkkaeaaGreatDoorNum
import Derived.Laws.EntriesVeiled
import Derived.Deep.RegionHeld
namespace Go.Proofs.YtfbmjfponkkaeaaGreatDoor.Num
open Go.RowKit Go.Proofs.YtfbmjfponkkaeaaGreatDoorW.PrintWords Go.Proofs.YtfbmjfponkkaeaaGreatDoor.Pr
set_option linter.unusedVariables false
set_option linter.unusedSimpArgs false
theorem blw_leB {B B' : Nat} {w w' : World} (h : Below B w w') (hb : B' ≤ B) : Below B' w w' := ⟨h.os, h.tape, h.output, h.size, fun k hk => h.block k (by omega)⟩
set_option maxHeartbeats 4000000 in
set_option maxRecDepth 100000 in
theorem numbers_4_3 (w : World) (B b c g : Nat) (v1 v2 v3 v4 : Int) (a t : ByteArray) (x0 x1 x2 : Int)
    (hB : w.heap[b]? = some (.cells #[.string a, .int .u8 4, .int .u8 v1, .int .u8 v2, .int .u8 v3, .int .i32 v4, .string t] 65 (0, 0))) (hb : B ≤ b)
    (h0 : w.cell? ⟨g, 0, none⟩ = some (.int .i64 x0)) (h1 : w.cell? ⟨g, 1, none⟩ = some (.int .i64 x1)) (h2 : w.cell? ⟨g, 2, none⟩ = some (.int .i64 x2)) (hne : g ≠ b) (b0 : 0 ≤ x0 ∧ x0 ≤ 255) (b1 : 0 ≤ x1 ∧ x1 ≤ 255) (b2 : -100000 ≤ x2 ∧ x2 ≤ 100000) :
    Calls Tryz.prog 93 #[.pointer (some ⟨b, 1, none⟩), .slice (some ⟨g, 0, none⟩) 3 c] w fun e w' =>
      e = .returned (.tuple #[]) ∧ w'.heap[b]? = some (.cells #[.string a, .int .u8 4, .int .u8 x0, .int .u8 x1, .int .u8 v3, .int .i32 x2, .string t] 65 (0, 0)) ∧ Below B w w' := by
  have hB2 := blk_alloc (blk_alloc hB (.cells #[.pointer (some ⟨b, 1, none⟩)] 150 (0, 0))) (.cells #[.slice (some ⟨g, 0, none⟩) 3 c] 82 (0, 0))
  have hG2 := blk_alloc (blk_new w (.cells #[.pointer (some ⟨b, 1, none⟩)] 150 (0, 0))) (.cells #[.slice (some ⟨g, 0, none⟩) 3 c] 82 (0, 0))
  have hL2 := blk_new (w.alloc (.cells #[.pointer (some ⟨b, 1, none⟩)] 150 (0, 0))) (.cells #[.slice (some ⟨g, 0, none⟩) 3 c] 82 (0, 0))
  have hBb : Below w.heap.size w ((w.alloc (.cells #[.pointer (some ⟨b, 1, none⟩)] 150 (0, 0))).alloc (.cells #[.slice (some ⟨g, 0, none⟩) 3 c] 82 (0, 0))) := below_alloc (below_alloc (Below.refl _ _) _) _
  have hbw : b < w.heap.size := blk_lt hB
  have h0' := (hBb.cell (p := ⟨g, 0, none⟩) (World.block_lt_of_cell? w _ h0)).trans h0
  have h1' := (hBb.cell (p := ⟨g, 1, none⟩) (World.block_lt_of_cell? w _ h1)).trans h1
  have h2' := (hBb.cell (p := ⟨g, 2, none⟩) (World.block_lt_of_cell? w _ h2)).trans h2
  have k1 := blk_cell hB2 1
  simp only [List.getElem?_toArray, List.getElem?_cons_zero, List.getElem?_cons_succ] at k1
  have hz : (w.alloc (.cells #[.pointer (some ⟨b, 1, none⟩)] 150 (0, 0))).heap.size = w.heap.size + 1 := by simp
  rw [hz] at hL2
  have HB := Aside0.mk hB2
  have HG := Aside0.mk hG2
  have HL := Aside0.mk hL2
  have HBb := Aside0.mk hBb
  have Hb := Aside0.mk hb
  have HW := Aside0.mk hbw
  have HD := Aside0.mk hne
  have H0 := Aside0.mk h0'
  have H1 := Aside0.mk h1'
  have H2 := Aside0.mk h2'
  clear hB hb hne h0 h0' h1 h1' h2 h2' hB2 hG2 hL2 hBb hz hbw
  go_enter Tryz.func93, Tryz.ntmps93
  go_wp2_with fail
  have hgi := blk_cell HG.out 0
  simp only [List.getElem?_toArray, List.getElem?_cons_zero] at hgi
  clear k1
  generalize (w.alloc (.cells #[.pointer (some ⟨b, 1, none⟩)] 150 (0, 0))).alloc (.cells #[.slice (some ⟨g, 0, none⟩) 3 c] 82 (0, 0)) = W0 at *
  have hgd : W0.drew.cell? ⟨w.heap.size, 0, none⟩ = some (.pointer (some ⟨b, 1, none⟩)) := hgi
  have hga : ∀ o, (W0.drew.alloc o).cell? ⟨w.heap.size, 0, none⟩ = some (.pointer (some ⟨b, 1, none⟩)) := fun o => by rw [World.cell?_alloc_some _ _ _ (by rw [hgd]; rfl)]; exact hgd
  have hgb : ∀ o, (W0.alloc o).drew.cell? ⟨w.heap.size, 0, none⟩ = some (.pointer (some ⟨b, 1, none⟩)) := hga
  have hBw : B ≤ w.heap.size := by have := HW.out; have := Hb.out; omega
  have hBW : B ≤ W0.heap.size := Nat.le_trans hBw HBb.out.size
  have hbW : w.heap.size ≠ b := by have := HW.out; omega
  have hBe : ∀ o, Below W0.heap.size W0 (W0.alloc o).drew := fun o => below_drew (below_alloc (Below.refl _ _) o)
  have CC := Aside0.mk ((clos_23 (W0.alloc (.cells #[.pointer (some ⟨b, 2, none⟩), .pointer (some ⟨b, 3, none⟩)] 197 (0, 0))).drew B b W0.heap.size (w.heap.size + 1) w.heap.size c g 4 v1 v2 v3 v4 a t x0 x1 x2 (blk_drew (blk_new _ _)) (blk_below HL.out (hBe (.cells #[.pointer (some ⟨b, 2, none⟩), .pointer (some ⟨b, 3, none⟩)] 197 (0, 0)))) (blk_below HG.out (hBe (.cells #[.pointer (some ⟨b, 2, none⟩), .pointer (some ⟨b, 3, none⟩)] 197 (0, 0)))) (blk_below HB.out (hBe (.cells #[.pointer (some ⟨b, 2, none⟩), .pointer (some ⟨b, 3, none⟩)] 197 (0, 0)))) Hb.out (((hBe (.cells #[.pointer (some ⟨b, 2, none⟩), .pointer (some ⟨b, 3, none⟩)] 197 (0, 0))).cell (p := ⟨g, 0, none⟩) (World.block_lt_of_cell? W0 _ H0.out)).trans H0.out) (((hBe (.cells #[.pointer (some ⟨b, 2, none⟩), .pointer (some ⟨b, 3, none⟩)] 197 (0, 0))).cell (p := ⟨g, 1, none⟩) (World.block_lt_of_cell? W0 _ H1.out)).trans H1.out) (((hBe (.cells #[.pointer (some ⟨b, 2, none⟩), .pointer (some ⟨b, 3, none⟩)] 197 (0, 0))).cell (p := ⟨g, 2, none⟩) (World.block_lt_of_cell? W0 _ H2.out)).trans H2.out) HD.out b0 b1 b2).mono (R' := fun e w' => e = .returned (.tuple #[]) ∧ w'.heap[b]? = some (.cells #[.string a, .int .u8 4, .int .u8 x0, .int .u8 x1, .int .u8 v3, .int .i32 x2, .string t] 65 (0, 0)) ∧ Below B w w' ∧ w'.cell? ⟨w.heap.size, 0, none⟩ = some (.pointer (some ⟨b, 1, none⟩))) (fun e w' h => ⟨h.1, h.2.1, (blw_leB HBb.out hBw).trans ((blw_leB (hBe _) hBW).trans h.2.2.1), (World.cell?_of_block (h.2.2.2 _ hbW)).trans (hgb _)⟩))
  clear hBe HL HG HB HBb hbW hBW hBw H0 H1 H2
  have HA := Aside0.mk hga
  have HB' := Aside0.mk hgb
  clear hga hgb
  go_region_held (fun w' => w'.cell? ⟨w.heap.size, 0, none⟩ = some (.pointer (some ⟨b, 1, none⟩))) (first | exact hgd | exact HA.out _ | exact HB'.out _ | assumption) (first | (refine CC.out.mono ?_; rintro e w' ⟨rfl, hbk, hbl, hce⟩))
  all_goals (go_end0; exact ⟨rfl, by assumption, by assumption⟩)

set_option maxHeartbeats 4000000 in
set_option maxRecDepth 100000 in
theorem numbers_6_2 (w : World) (B b c g : Nat) (v1 v2 v3 v4 : Int) (a t : ByteArray) (x0 x1 : Int)
    (hB : w.heap[b]? = some (.cells #[.string a, .int .u8 6, .int .u8 v1, .int .u8 v2, .int .u8 v3, .int .i32 v4, .string t] 65 (0, 0))) (hb : B ≤ b)
    (h0 : w.cell? ⟨g, 0, none⟩ = some (.int .i64 x0)) (h1 : w.cell? ⟨g, 1, none⟩ = some (.int .i64 x1)) (hne : g ≠ b) (b0 : 0 ≤ x0 ∧ x0 ≤ 255) (b1 : 0 ≤ x1 ∧ x1 ≤ 255) :
    Calls Tryz.prog 93 #[.pointer (some ⟨b, 1, none⟩), .slice (some ⟨g, 0, none⟩) 2 c] w fun e w' =>
      e = .returned (.tuple #[]) ∧ w'.heap[b]? = some (.cells #[.string a, .int .u8 6, .int .u8 v1, .int .u8 x0, .int .u8 x1, .int .i32 v4, .string t] 65 (0, 0)) ∧ Below B w w' := by
  have hB2 := blk_alloc (blk_alloc hB (.cells #[.pointer (some ⟨b, 1, none⟩)] 150 (0, 0))) (.cells #[.slice (some ⟨g, 0, none⟩) 2 c] 82 (0, 0))
  have hG2 := blk_alloc (blk_new w (.cells #[.pointer (some ⟨b, 1, none⟩)] 150 (0, 0))) (.cells #[.slice (some ⟨g, 0, none⟩) 2 c] 82 (0, 0))
  have hL2 := blk_new (w.alloc (.cells #[.pointer (some ⟨b, 1, none⟩)] 150 (0, 0))) (.cells #[.slice (some ⟨g, 0, none⟩) 2 c] 82 (0, 0))
  have hBb : Below w.heap.size w ((w.alloc (.cells #[.pointer (some ⟨b, 1, none⟩)] 150 (0, 0))).alloc (.cells #[.slice (some ⟨g, 0, none⟩) 2 c] 82 (0, 0))) := below_alloc (below_alloc (Below.refl _ _) _) _
  have hbw : b < w.heap.size := blk_lt hB
  have h0' := (hBb.cell (p := ⟨g, 0, none⟩) (World.block_lt_of_cell? w _ h0)).trans h0
  have h1' := (hBb.cell (p := ⟨g, 1, none⟩) (World.block_lt_of_cell? w _ h1)).trans h1
  have k1 := blk_cell hB2 1
  simp only [List.getElem?_toArray, List.getElem?_cons_zero, List.getElem?_cons_succ] at k1
  have hz : (w.alloc (.cells #[.pointer (some ⟨b, 1, none⟩)] 150 (0, 0))).heap.size = w.heap.size + 1 := by simp
  rw [hz] at hL2
  have HB := Aside0.mk hB2
  have HG := Aside0.mk hG2
  have HL := Aside0.mk hL2
  have HBb := Aside0.mk hBb
  have Hb := Aside0.mk hb
  have HW := Aside0.mk hbw
  have HD := Aside0.mk hne
  have H0 := Aside0.mk h0'
  have H1 := Aside0.mk h1'
  clear hB hb hne h0 h0' h1 h1' hB2 hG2 hL2 hBb hz hbw
  go_enter Tryz.func93, Tryz.ntmps93
  go_wp2_with fail
  have hgi := blk_cell HG.out 0
  simp only [List.getElem?_toArray, List.getElem?_cons_zero] at hgi
  clear k1
  generalize (w.alloc (.cells #[.pointer (some ⟨b, 1, none⟩)] 150 (0, 0))).alloc (.cells #[.slice (some ⟨g, 0, none⟩) 2 c] 82 (0, 0)) = W0 at *
  have hgd : W0.drew.cell? ⟨w.heap.size, 0, none⟩ = some (.pointer (some ⟨b, 1, none⟩)) := hgi
  have hga : ∀ o, (W0.drew.alloc o).cell? ⟨w.heap.size, 0, none⟩ = some (.pointer (some ⟨b, 1, none⟩)) := fun o => by rw [World.cell?_alloc_some _ _ _ (by rw [hgd]; rfl)]; exact hgd
  have hgb : ∀ o, (W0.alloc o).drew.cell? ⟨w.heap.size, 0, none⟩ = some (.pointer (some ⟨b, 1, none⟩)) := hga
  have hBw : B ≤ w.heap.size := by have := HW.out; have := Hb.out; omega
  have hBW : B ≤ W0.heap.size := Nat.le_trans hBw HBb.out.size
  have hbW : w.heap.size ≠ b := by have := HW.out; omega
  have hBe : ∀ o, Below W0.heap.size W0 (W0.alloc o).drew := fun o => below_drew (below_alloc (Below.refl _ _) o)
  have CC := Aside0.mk ((clos_22rs (W0.alloc (.cells #[.pointer (some ⟨b, 3, none⟩), .pointer (some ⟨b, 4, none⟩)] 197 (0, 0))).drew B b W0.heap.size (w.heap.size + 1) w.heap.size c g 6 v1 v2 v3 v4 a t x0 x1 (blk_drew (blk_new _ _)) (blk_below HL.out (hBe (.cells #[.pointer (some ⟨b, 3, none⟩), .pointer (some ⟨b, 4, none⟩)] 197 (0, 0)))) (blk_below HG.out (hBe (.cells #[.pointer (some ⟨b, 3, none⟩), .pointer (some ⟨b, 4, none⟩)] 197 (0, 0)))) (blk_below HB.out (hBe (.cells #[.pointer (some ⟨b, 3, none⟩), .pointer (some ⟨b, 4, none⟩)] 197 (0, 0)))) Hb.out (((hBe (.cells #[.pointer (some ⟨b, 3, none⟩), .pointer (some ⟨b, 4, none⟩)] 197 (0, 0))).cell (p := ⟨g, 0, none⟩) (World.block_lt_of_cell? W0 _ H0.out)).trans H0.out) (((hBe (.cells #[.pointer (some ⟨b, 3, none⟩), .pointer (some ⟨b, 4, none⟩)] 197 (0, 0))).cell (p := ⟨g, 1, none⟩) (World.block_lt_of_cell? W0 _ H1.out)).trans H1.out) HD.out b0 b1).mono (R' := fun e w' => e = .returned (.tuple #[]) ∧ w'.heap[b]? = some (.cells #[.string a, .int .u8 6, .int .u8 v1, .int .u8 x0, .int .u8 x1, .int .i32 v4, .string t] 65 (0, 0)) ∧ Below B w w' ∧ w'.cell? ⟨w.heap.size, 0, none⟩ = some (.pointer (some ⟨b, 1, none⟩))) (fun e w' h => ⟨h.1, h.2.1, (blw_leB HBb.out hBw).trans ((blw_leB (hBe _) hBW).trans h.2.2.1), (World.cell?_of_block (h.2.2.2 _ hbW)).trans (hgb _)⟩))
  clear hBe HL HG HB HBb hbW hBW hBw H0 H1
  have HA := Aside0.mk hga
  have HB' := Aside0.mk hgb
  clear hga hgb
  go_region_held (fun w' => w'.cell? ⟨w.heap.size, 0, none⟩ = some (.pointer (some ⟨b, 1, none⟩))) (first | exact hgd | exact HA.out _ | exact HB'.out _ | assumption) (first | (refine CC.out.mono ?_; rintro e w' ⟨rfl, hbk, hbl, hce⟩))
  all_goals (go_end0; exact ⟨rfl, by assumption, by assumption⟩)

set_option maxHeartbeats 4000000 in
set_option maxRecDepth 100000 in
theorem numbers_9_2 (w : World) (B b c g : Nat) (v1 v2 v3 v4 : Int) (a t : ByteArray) (x0 x1 : Int)
    (hB : w.heap[b]? = some (.cells #[.string a, .int .u8 9, .int .u8 v1, .int .u8 v2, .int .u8 v3, .int .i32 v4, .string t] 65 (0, 0))) (hb : B ≤ b)
    (h0 : w.cell? ⟨g, 0, none⟩ = some (.int .i64 x0)) (h1 : w.cell? ⟨g, 1, none⟩ = some (.int .i64 x1)) (hne : g ≠ b) (b0 : 0 ≤ x0 ∧ x0 ≤ 255) (b1 : 0 ≤ x1 ∧ x1 ≤ 255) :
    Calls Tryz.prog 93 #[.pointer (some ⟨b, 1, none⟩), .slice (some ⟨g, 0, none⟩) 2 c] w fun e w' =>
      e = .returned (.tuple #[]) ∧ w'.heap[b]? = some (.cells #[.string a, .int .u8 9, .int .u8 v1, .int .u8 x0, .int .u8 x1, .int .i32 v4, .string t] 65 (0, 0)) ∧ Below B w w' := by
  have hB2 := blk_alloc (blk_alloc hB (.cells #[.pointer (some ⟨b, 1, none⟩)] 150 (0, 0))) (.cells #[.slice (some ⟨g, 0, none⟩) 2 c] 82 (0, 0))
  have hG2 := blk_alloc (blk_new w (.cells #[.pointer (some ⟨b, 1, none⟩)] 150 (0, 0))) (.cells #[.slice (some ⟨g, 0, none⟩) 2 c] 82 (0, 0))
  have hL2 := blk_new (w.alloc (.cells #[.pointer (some ⟨b, 1, none⟩)] 150 (0, 0))) (.cells #[.slice (some ⟨g, 0, none⟩) 2 c] 82 (0, 0))
  have hBb : Below w.heap.size w ((w.alloc (.cells #[.pointer (some ⟨b, 1, none⟩)] 150 (0, 0))).alloc (.cells #[.slice (some ⟨g, 0, none⟩) 2 c] 82 (0, 0))) := below_alloc (below_alloc (Below.refl _ _) _) _
  have hbw : b < w.heap.size := blk_lt hB
  have h0' := (hBb.cell (p := ⟨g, 0, none⟩) (World.block_lt_of_cell? w _ h0)).trans h0
  have h1' := (hBb.cell (p := ⟨g, 1, none⟩) (World.block_lt_of_cell? w _ h1)).trans h1
  have k1 := blk_cell hB2 1
  simp only [List.getElem?_toArray, List.getElem?_cons_zero, List.getElem?_cons_succ] at k1
  have hz : (w.alloc (.cells #[.pointer (some ⟨b, 1, none⟩)] 150 (0, 0))).heap.size = w.heap.size + 1 := by simp
  rw [hz] at hL2
  have HB := Aside0.mk hB2
  have HG := Aside0.mk hG2
  have HL := Aside0.mk hL2
  have HBb := Aside0.mk hBb
  have Hb := Aside0.mk hb
  have HW := Aside0.mk hbw
  have HD := Aside0.mk hne
  have H0 := Aside0.mk h0'
  have H1 := Aside0.mk h1'
  clear hB hb hne h0 h0' h1 h1' hB2 hG2 hL2 hBb hz hbw
  go_enter Tryz.func93, Tryz.ntmps93
  go_wp2_with fail
  have hgi := blk_cell HG.out 0
  simp only [List.getElem?_toArray, List.getElem?_cons_zero] at hgi
  clear k1
  generalize (w.alloc (.cells #[.pointer (some ⟨b, 1, none⟩)] 150 (0, 0))).alloc (.cells #[.slice (some ⟨g, 0, none⟩) 2 c] 82 (0, 0)) = W0 at *
  have hgd : W0.drew.cell? ⟨w.heap.size, 0, none⟩ = some (.pointer (some ⟨b, 1, none⟩)) := hgi
  have hga : ∀ o, (W0.drew.alloc o).cell? ⟨w.heap.size, 0, none⟩ = some (.pointer (some ⟨b, 1, none⟩)) := fun o => by rw [World.cell?_alloc_some _ _ _ (by rw [hgd]; rfl)]; exact hgd
  have hgb : ∀ o, (W0.alloc o).drew.cell? ⟨w.heap.size, 0, none⟩ = some (.pointer (some ⟨b, 1, none⟩)) := hga
  have hBw : B ≤ w.heap.size := by have := HW.out; have := Hb.out; omega
  have hBW : B ≤ W0.heap.size := Nat.le_trans hBw HBb.out.size
  have hbW : w.heap.size ≠ b := by have := HW.out; omega
  have hBe : ∀ o, Below W0.heap.size W0 (W0.alloc o).drew := fun o => below_drew (below_alloc (Below.refl _ _) o)
  have CC := Aside0.mk ((clos_22rs (W0.alloc (.cells #[.pointer (some ⟨b, 3, none⟩), .pointer (some ⟨b, 4, none⟩)] 197 (0, 0))).drew B b W0.heap.size (w.heap.size + 1) w.heap.size c g 9 v1 v2 v3 v4 a t x0 x1 (blk_drew (blk_new _ _)) (blk_below HL.out (hBe (.cells #[.pointer (some ⟨b, 3, none⟩), .pointer (some ⟨b, 4, none⟩)] 197 (0, 0)))) (blk_below HG.out (hBe (.cells #[.pointer (some ⟨b, 3, none⟩), .pointer (some ⟨b, 4, none⟩)] 197 (0, 0)))) (blk_below HB.out (hBe (.cells #[.pointer (some ⟨b, 3, none⟩), .pointer (some ⟨b, 4, none⟩)] 197 (0, 0)))) Hb.out (((hBe (.cells #[.pointer (some ⟨b, 3, none⟩), .pointer (some ⟨b, 4, none⟩)] 197 (0, 0))).cell (p := ⟨g, 0, none⟩) (World.block_lt_of_cell? W0 _ H0.out)).trans H0.out) (((hBe (.cells #[.pointer (some ⟨b, 3, none⟩), .pointer (some ⟨b, 4, none⟩)] 197 (0, 0))).cell (p := ⟨g, 1, none⟩) (World.block_lt_of_cell? W0 _ H1.out)).trans H1.out) HD.out b0 b1).mono (R' := fun e w' => e = .returned (.tuple #[]) ∧ w'.heap[b]? = some (.cells #[.string a, .int .u8 9, .int .u8 v1, .int .u8 x0, .int .u8 x1, .int .i32 v4, .string t] 65 (0, 0)) ∧ Below B w w' ∧ w'.cell? ⟨w.heap.size, 0, none⟩ = some (.pointer (some ⟨b, 1, none⟩))) (fun e w' h => ⟨h.1, h.2.1, (blw_leB HBb.out hBw).trans ((blw_leB (hBe _) hBW).trans h.2.2.1), (World.cell?_of_block (h.2.2.2 _ hbW)).trans (hgb _)⟩))
  clear hBe HL HG HB HBb hbW hBW hBw H0 H1
  have HA := Aside0.mk hga
  have HB' := Aside0.mk hgb
  clear hga hgb
  go_region_held (fun w' => w'.cell? ⟨w.heap.size, 0, none⟩ = some (.pointer (some ⟨b, 1, none⟩))) (first | exact hgd | exact HA.out _ | exact HB'.out _ | assumption) (first | (refine CC.out.mono ?_; rintro e w' ⟨rfl, hbk, hbl, hce⟩))
  all_goals (go_end0; exact ⟨rfl, by assumption, by assumption⟩)

set_option maxHeartbeats 4000000 in
set_option maxRecDepth 100000 in
theorem numbers_13_3 (w : World) (B b c g : Nat) (v1 v2 v3 v4 : Int) (a t : ByteArray) (x0 x1 x2 : Int)
    (hB : w.heap[b]? = some (.cells #[.string a, .int .u8 13, .int .u8 v1, .int .u8 v2, .int .u8 v3, .int .i32 v4, .string t] 65 (0, 0))) (hb : B ≤ b)
    (h0 : w.cell? ⟨g, 0, none⟩ = some (.int .i64 x0)) (h1 : w.cell? ⟨g, 1, none⟩ = some (.int .i64 x1)) (h2 : w.cell? ⟨g, 2, none⟩ = some (.int .i64 x2)) (hne : g ≠ b) (b0 : 0 ≤ x0 ∧ x0 ≤ 255) (b1 : 0 ≤ x1 ∧ x1 ≤ 255) (b2 : -100000 ≤ x2 ∧ x2 ≤ 100000) :
    Calls Tryz.prog 93 #[.pointer (some ⟨b, 1, none⟩), .slice (some ⟨g, 0, none⟩) 3 c] w fun e w' =>
      e = .returned (.tuple #[]) ∧ w'.heap[b]? = some (.cells #[.string a, .int .u8 13, .int .u8 x0, .int .u8 x1, .int .u8 v3, .int .i32 x2, .string t] 65 (0, 0)) ∧ Below B w w' := by
  have hB2 := blk_alloc (blk_alloc hB (.cells #[.pointer (some ⟨b, 1, none⟩)] 150 (0, 0))) (.cells #[.slice (some ⟨g, 0, none⟩) 3 c] 82 (0, 0))
  have hG2 := blk_alloc (blk_new w (.cells #[.pointer (some ⟨b, 1, none⟩)] 150 (0, 0))) (.cells #[.slice (some ⟨g, 0, none⟩) 3 c] 82 (0, 0))
  have hL2 := blk_new (w.alloc (.cells #[.pointer (some ⟨b, 1, none⟩)] 150 (0, 0))) (.cells #[.slice (some ⟨g, 0, none⟩) 3 c] 82 (0, 0))
  have hBb : Below w.heap.size w ((w.alloc (.cells #[.pointer (some ⟨b, 1, none⟩)] 150 (0, 0))).alloc (.cells #[.slice (some ⟨g, 0, none⟩) 3 c] 82 (0, 0))) := below_alloc (below_alloc (Below.refl _ _) _) _
  have hbw : b < w.heap.size := blk_lt hB
  have h0' := (hBb.cell (p := ⟨g, 0, none⟩) (World.block_lt_of_cell? w _ h0)).trans h0
  have h1' := (hBb.cell (p := ⟨g, 1, none⟩) (World.block_lt_of_cell? w _ h1)).trans h1
  have h2' := (hBb.cell (p := ⟨g, 2, none⟩) (World.block_lt_of_cell? w _ h2)).trans h2
  have k1 := blk_cell hB2 1
  simp only [List.getElem?_toArray, List.getElem?_cons_zero, List.getElem?_cons_succ] at k1
  have hz : (w.alloc (.cells #[.pointer (some ⟨b, 1, none⟩)] 150 (0, 0))).heap.size = w.heap.size + 1 := by simp
  rw [hz] at hL2
  have HB := Aside0.mk hB2
  have HG := Aside0.mk hG2
  have HL := Aside0.mk hL2
  have HBb := Aside0.mk hBb
  have Hb := Aside0.mk hb
  have HW := Aside0.mk hbw
  have HD := Aside0.mk hne
  have H0 := Aside0.mk h0'
  have H1 := Aside0.mk h1'
  have H2 := Aside0.mk h2'
  clear hB hb hne h0 h0' h1 h1' h2 h2' hB2 hG2 hL2 hBb hz hbw
  go_enter Tryz.func93, Tryz.ntmps93
  go_wp2_with fail
  have hgi := blk_cell HG.out 0
  simp only [List.getElem?_toArray, List.getElem?_cons_zero] at hgi
  clear k1
  generalize (w.alloc (.cells #[.pointer (some ⟨b, 1, none⟩)] 150 (0, 0))).alloc (.cells #[.slice (some ⟨g, 0, none⟩) 3 c] 82 (0, 0)) = W0 at *
  have hgd : W0.drew.cell? ⟨w.heap.size, 0, none⟩ = some (.pointer (some ⟨b, 1, none⟩)) := hgi
  have hga : ∀ o, (W0.drew.alloc o).cell? ⟨w.heap.size, 0, none⟩ = some (.pointer (some ⟨b, 1, none⟩)) := fun o => by rw [World.cell?_alloc_some _ _ _ (by rw [hgd]; rfl)]; exact hgd
  have hgb : ∀ o, (W0.alloc o).drew.cell? ⟨w.heap.size, 0, none⟩ = some (.pointer (some ⟨b, 1, none⟩)) := hga
  have hBw : B ≤ w.heap.size := by have := HW.out; have := Hb.out; omega
  have hBW : B ≤ W0.heap.size := Nat.le_trans hBw HBb.out.size
  have hbW : w.heap.size ≠ b := by have := HW.out; omega
  have hBe : ∀ o, Below W0.heap.size W0 (W0.alloc o).drew := fun o => below_drew (below_alloc (Below.refl _ _) o)
  have CC := Aside0.mk ((clos_23 (W0.alloc (.cells #[.pointer (some ⟨b, 2, none⟩), .pointer (some ⟨b, 3, none⟩)] 197 (0, 0))).drew B b W0.heap.size (w.heap.size + 1) w.heap.size c g 13 v1 v2 v3 v4 a t x0 x1 x2 (blk_drew (blk_new _ _)) (blk_below HL.out (hBe (.cells #[.pointer (some ⟨b, 2, none⟩), .pointer (some ⟨b, 3, none⟩)] 197 (0, 0)))) (blk_below HG.out (hBe (.cells #[.pointer (some ⟨b, 2, none⟩), .pointer (some ⟨b, 3, none⟩)] 197 (0, 0)))) (blk_below HB.out (hBe (.cells #[.pointer (some ⟨b, 2, none⟩), .pointer (some ⟨b, 3, none⟩)] 197 (0, 0)))) Hb.out (((hBe (.cells #[.pointer (some ⟨b, 2, none⟩), .pointer (some ⟨b, 3, none⟩)] 197 (0, 0))).cell (p := ⟨g, 0, none⟩) (World.block_lt_of_cell? W0 _ H0.out)).trans H0.out) (((hBe (.cells #[.pointer (some ⟨b, 2, none⟩), .pointer (some ⟨b, 3, none⟩)] 197 (0, 0))).cell (p := ⟨g, 1, none⟩) (World.block_lt_of_cell? W0 _ H1.out)).trans H1.out) (((hBe (.cells #[.pointer (some ⟨b, 2, none⟩), .pointer (some ⟨b, 3, none⟩)] 197 (0, 0))).cell (p := ⟨g, 2, none⟩) (World.block_lt_of_cell? W0 _ H2.out)).trans H2.out) HD.out b0 b1 b2).mono (R' := fun e w' => e = .returned (.tuple #[]) ∧ w'.heap[b]? = some (.cells #[.string a, .int .u8 13, .int .u8 x0, .int .u8 x1, .int .u8 v3, .int .i32 x2, .string t] 65 (0, 0)) ∧ Below B w w' ∧ w'.cell? ⟨w.heap.size, 0, none⟩ = some (.pointer (some ⟨b, 1, none⟩))) (fun e w' h => ⟨h.1, h.2.1, (blw_leB HBb.out hBw).trans ((blw_leB (hBe _) hBW).trans h.2.2.1), (World.cell?_of_block (h.2.2.2 _ hbW)).trans (hgb _)⟩))
  clear hBe HL HG HB HBb hbW hBW hBw H0 H1 H2
  have HA := Aside0.mk hga
  have HB' := Aside0.mk hgb
  clear hga hgb
  go_region_held (fun w' => w'.cell? ⟨w.heap.size, 0, none⟩ = some (.pointer (some ⟨b, 1, none⟩))) (first | exact hgd | exact HA.out _ | exact HB'.out _ | assumption) (first | (refine CC.out.mono ?_; rintro e w' ⟨rfl, hbk, hbl, hce⟩))
  all_goals (go_end0; exact ⟨rfl, by assumption, by assumption⟩)

set_option maxHeartbeats 4000000 in
set_option maxRecDepth 100000 in
theorem numbers_20_3 (w : World) (B b c g : Nat) (v1 v2 v3 v4 : Int) (a t : ByteArray) (x0 x1 x2 : Int)
    (hB : w.heap[b]? = some (.cells #[.string a, .int .u8 20, .int .u8 v1, .int .u8 v2, .int .u8 v3, .int .i32 v4, .string t] 65 (0, 0))) (hb : B ≤ b)
    (h0 : w.cell? ⟨g, 0, none⟩ = some (.int .i64 x0)) (h1 : w.cell? ⟨g, 1, none⟩ = some (.int .i64 x1)) (h2 : w.cell? ⟨g, 2, none⟩ = some (.int .i64 x2)) (hne : g ≠ b) (b0 : 0 ≤ x0 ∧ x0 ≤ 255) (b1 : 0 ≤ x1 ∧ x1 ≤ 255) (b2 : -100000 ≤ x2 ∧ x2 ≤ 100000) :
    Calls Tryz.prog 93 #[.pointer (some ⟨b, 1, none⟩), .slice (some ⟨g, 0, none⟩) 3 c] w fun e w' =>
      e = .returned (.tuple #[]) ∧ w'.heap[b]? = some (.cells #[.string a, .int .u8 20, .int .u8 v1, .int .u8 x0, .int .u8 x1, .int .i32 x2, .string t] 65 (0, 0)) ∧ Below B w w' := by
  have hB2 := blk_alloc (blk_alloc hB (.cells #[.pointer (some ⟨b, 1, none⟩)] 150 (0, 0))) (.cells #[.slice (some ⟨g, 0, none⟩) 3 c] 82 (0, 0))
  have hG2 := blk_alloc (blk_new w (.cells #[.pointer (some ⟨b, 1, none⟩)] 150 (0, 0))) (.cells #[.slice (some ⟨g, 0, none⟩) 3 c] 82 (0, 0))
  have hL2 := blk_new (w.alloc (.cells #[.pointer (some ⟨b, 1, none⟩)] 150 (0, 0))) (.cells #[.slice (some ⟨g, 0, none⟩) 3 c] 82 (0, 0))
  have hBb : Below w.heap.size w ((w.alloc (.cells #[.pointer (some ⟨b, 1, none⟩)] 150 (0, 0))).alloc (.cells #[.slice (some ⟨g, 0, none⟩) 3 c] 82 (0, 0))) := below_alloc (below_alloc (Below.refl _ _) _) _
  have hbw : b < w.heap.size := blk_lt hB
  have h0' := (hBb.cell (p := ⟨g, 0, none⟩) (World.block_lt_of_cell? w _ h0)).trans h0
  have h1' := (hBb.cell (p := ⟨g, 1, none⟩) (World.block_lt_of_cell? w _ h1)).trans h1
  have h2' := (hBb.cell (p := ⟨g, 2, none⟩) (World.block_lt_of_cell? w _ h2)).trans h2
  have k1 := blk_cell hB2 1
  simp only [List.getElem?_toArray, List.getElem?_cons_zero, List.getElem?_cons_succ] at k1
  have hz : (w.alloc (.cells #[.pointer (some ⟨b, 1, none⟩)] 150 (0, 0))).heap.size = w.heap.size + 1 := by simp
  rw [hz] at hL2
  have HB := Aside0.mk hB2
  have HG := Aside0.mk hG2
  have HL := Aside0.mk hL2
  have HBb := Aside0.mk hBb
  have Hb := Aside0.mk hb
  have HW := Aside0.mk hbw
  have HD := Aside0.mk hne
  have H0 := Aside0.mk h0'
  have H1 := Aside0.mk h1'
  have H2 := Aside0.mk h2'
  clear hB hb hne h0 h0' h1 h1' h2 h2' hB2 hG2 hL2 hBb hz hbw
  go_enter Tryz.func93, Tryz.ntmps93
  go_wp2_with fail
  have hgi := blk_cell HG.out 0
  simp only [List.getElem?_toArray, List.getElem?_cons_zero] at hgi
  clear k1
  generalize (w.alloc (.cells #[.pointer (some ⟨b, 1, none⟩)] 150 (0, 0))).alloc (.cells #[.slice (some ⟨g, 0, none⟩) 3 c] 82 (0, 0)) = W0 at *
  have hgd : W0.drew.cell? ⟨w.heap.size, 0, none⟩ = some (.pointer (some ⟨b, 1, none⟩)) := hgi
  have hga : ∀ o, (W0.drew.alloc o).cell? ⟨w.heap.size, 0, none⟩ = some (.pointer (some ⟨b, 1, none⟩)) := fun o => by rw [World.cell?_alloc_some _ _ _ (by rw [hgd]; rfl)]; exact hgd
  have hgb : ∀ o, (W0.alloc o).drew.cell? ⟨w.heap.size, 0, none⟩ = some (.pointer (some ⟨b, 1, none⟩)) := hga
  have hBw : B ≤ w.heap.size := by have := HW.out; have := Hb.out; omega
  have hBW : B ≤ W0.heap.size := Nat.le_trans hBw HBb.out.size
  have hbW : w.heap.size ≠ b := by have := HW.out; omega
  have hBe : ∀ o, Below W0.heap.size W0 (W0.alloc o).drew := fun o => below_drew (below_alloc (Below.refl _ _) o)
  have CC := Aside0.mk ((clos_23rs (W0.alloc (.cells #[.pointer (some ⟨b, 3, none⟩), .pointer (some ⟨b, 4, none⟩)] 197 (0, 0))).drew B b W0.heap.size (w.heap.size + 1) w.heap.size c g 20 v1 v2 v3 v4 a t x0 x1 x2 (blk_drew (blk_new _ _)) (blk_below HL.out (hBe (.cells #[.pointer (some ⟨b, 3, none⟩), .pointer (some ⟨b, 4, none⟩)] 197 (0, 0)))) (blk_below HG.out (hBe (.cells #[.pointer (some ⟨b, 3, none⟩), .pointer (some ⟨b, 4, none⟩)] 197 (0, 0)))) (blk_below HB.out (hBe (.cells #[.pointer (some ⟨b, 3, none⟩), .pointer (some ⟨b, 4, none⟩)] 197 (0, 0)))) Hb.out (((hBe (.cells #[.pointer (some ⟨b, 3, none⟩), .pointer (some ⟨b, 4, none⟩)] 197 (0, 0))).cell (p := ⟨g, 0, none⟩) (World.block_lt_of_cell? W0 _ H0.out)).trans H0.out) (((hBe (.cells #[.pointer (some ⟨b, 3, none⟩), .pointer (some ⟨b, 4, none⟩)] 197 (0, 0))).cell (p := ⟨g, 1, none⟩) (World.block_lt_of_cell? W0 _ H1.out)).trans H1.out) (((hBe (.cells #[.pointer (some ⟨b, 3, none⟩), .pointer (some ⟨b, 4, none⟩)] 197 (0, 0))).cell (p := ⟨g, 2, none⟩) (World.block_lt_of_cell? W0 _ H2.out)).trans H2.out) HD.out b0 b1 b2).mono (R' := fun e w' => e = .returned (.tuple #[]) ∧ w'.heap[b]? = some (.cells #[.string a, .int .u8 20, .int .u8 v1, .int .u8 x0, .int .u8 x1, .int .i32 x2, .string t] 65 (0, 0)) ∧ Below B w w' ∧ w'.cell? ⟨w.heap.size, 0, none⟩ = some (.pointer (some ⟨b, 1, none⟩))) (fun e w' h => ⟨h.1, h.2.1, (blw_leB HBb.out hBw).trans ((blw_leB (hBe _) hBW).trans h.2.2.1), (World.cell?_of_block (h.2.2.2 _ hbW)).trans (hgb _)⟩))
  clear hBe HL HG HB HBb hbW hBW hBw H0 H1 H2
  have HA := Aside0.mk hga
  have HB' := Aside0.mk hgb
  clear hga hgb
  go_region_held (fun w' => w'.cell? ⟨w.heap.size, 0, none⟩ = some (.pointer (some ⟨b, 1, none⟩))) (first | exact hgd | exact HA.out _ | exact HB'.out _ | assumption) (first | (refine CC.out.mono ?_; rintro e w' ⟨rfl, hbk, hbl, hce⟩))
  all_goals (go_end0; exact ⟨rfl, by assumption, by assumption⟩)

set_option maxHeartbeats 4000000 in
set_option maxRecDepth 100000 in
theorem numbers_26_3 (w : World) (B b c g : Nat) (v1 v2 v3 v4 : Int) (a t : ByteArray) (x0 x1 x2 : Int)
    (hB : w.heap[b]? = some (.cells #[.string a, .int .u8 26, .int .u8 v1, .int .u8 v2, .int .u8 v3, .int .i32 v4, .string t] 65 (0, 0))) (hb : B ≤ b)
    (h0 : w.cell? ⟨g, 0, none⟩ = some (.int .i64 x0)) (h1 : w.cell? ⟨g, 1, none⟩ = some (.int .i64 x1)) (h2 : w.cell? ⟨g, 2, none⟩ = some (.int .i64 x2)) (hne : g ≠ b) (b0 : 0 ≤ x0 ∧ x0 ≤ 255) (b1 : 0 ≤ x1 ∧ x1 ≤ 255) (b2 : -100000 ≤ x2 ∧ x2 ≤ 100000) :
    Calls Tryz.prog 93 #[.pointer (some ⟨b, 1, none⟩), .slice (some ⟨g, 0, none⟩) 3 c] w fun e w' =>
      e = .returned (.tuple #[]) ∧ w'.heap[b]? = some (.cells #[.string a, .int .u8 26, .int .u8 x0, .int .u8 x1, .int .u8 v3, .int .i32 x2, .string t] 65 (0, 0)) ∧ Below B w w' := by
  have hB2 := blk_alloc (blk_alloc hB (.cells #[.pointer (some ⟨b, 1, none⟩)] 150 (0, 0))) (.cells #[.slice (some ⟨g, 0, none⟩) 3 c] 82 (0, 0))
  have hG2 := blk_alloc (blk_new w (.cells #[.pointer (some ⟨b, 1, none⟩)] 150 (0, 0))) (.cells #[.slice (some ⟨g, 0, none⟩) 3 c] 82 (0, 0))
  have hL2 := blk_new (w.alloc (.cells #[.pointer (some ⟨b, 1, none⟩)] 150 (0, 0))) (.cells #[.slice (some ⟨g, 0, none⟩) 3 c] 82 (0, 0))
  have hBb : Below w.heap.size w ((w.alloc (.cells #[.pointer (some ⟨b, 1, none⟩)] 150 (0, 0))).alloc (.cells #[.slice (some ⟨g, 0, none⟩) 3 c] 82 (0, 0))) := below_alloc (below_alloc (Below.refl _ _) _) _
  have hbw : b < w.heap.size := blk_lt hB
  have h0' := (hBb.cell (p := ⟨g, 0, none⟩) (World.block_lt_of_cell? w _ h0)).trans h0
  have h1' := (hBb.cell (p := ⟨g, 1, none⟩) (World.block_lt_of_cell? w _ h1)).trans h1
  have h2' := (hBb.cell (p := ⟨g, 2, none⟩) (World.block_lt_of_cell? w _ h2)).trans h2
  have k1 := blk_cell hB2 1
  simp only [List.getElem?_toArray, List.getElem?_cons_zero, List.getElem?_cons_succ] at k1
  have hz : (w.alloc (.cells #[.pointer (some ⟨b, 1, none⟩)] 150 (0, 0))).heap.size = w.heap.size + 1 := by simp
  rw [hz] at hL2
  have HB := Aside0.mk hB2
  have HG := Aside0.mk hG2
  have HL := Aside0.mk hL2
  have HBb := Aside0.mk hBb
  have Hb := Aside0.mk hb
  have HW := Aside0.mk hbw
  have HD := Aside0.mk hne
  have H0 := Aside0.mk h0'
  have H1 := Aside0.mk h1'
  have H2 := Aside0.mk h2'
  clear hB hb hne h0 h0' h1 h1' h2 h2' hB2 hG2 hL2 hBb hz hbw
  go_enter Tryz.func93, Tryz.ntmps93
  go_wp2_with fail
  have hgi := blk_cell HG.out 0
  simp only [List.getElem?_toArray, List.getElem?_cons_zero] at hgi
  clear k1
  generalize (w.alloc (.cells #[.pointer (some ⟨b, 1, none⟩)] 150 (0, 0))).alloc (.cells #[.slice (some ⟨g, 0, none⟩) 3 c] 82 (0, 0)) = W0 at *
  have hgd : W0.drew.cell? ⟨w.heap.size, 0, none⟩ = some (.pointer (some ⟨b, 1, none⟩)) := hgi
  have hga : ∀ o, (W0.drew.alloc o).cell? ⟨w.heap.size, 0, none⟩ = some (.pointer (some ⟨b, 1, none⟩)) := fun o => by rw [World.cell?_alloc_some _ _ _ (by rw [hgd]; rfl)]; exact hgd
  have hgb : ∀ o, (W0.alloc o).drew.cell? ⟨w.heap.size, 0, none⟩ = some (.pointer (some ⟨b, 1, none⟩)) := hga
  have hBw : B ≤ w.heap.size := by have := HW.out; have := Hb.out; omega
  have hBW : B ≤ W0.heap.size := Nat.le_trans hBw HBb.out.size
  have hbW : w.heap.size ≠ b := by have := HW.out; omega
  have hBe : ∀ o, Below W0.heap.size W0 (W0.alloc o).drew := fun o => below_drew (below_alloc (Below.refl _ _) o)
  have CC := Aside0.mk ((clos_23 (W0.alloc (.cells #[.pointer (some ⟨b, 2, none⟩), .pointer (some ⟨b, 3, none⟩)] 197 (0, 0))).drew B b W0.heap.size (w.heap.size + 1) w.heap.size c g 26 v1 v2 v3 v4 a t x0 x1 x2 (blk_drew (blk_new _ _)) (blk_below HL.out (hBe (.cells #[.pointer (some ⟨b, 2, none⟩), .pointer (some ⟨b, 3, none⟩)] 197 (0, 0)))) (blk_below HG.out (hBe (.cells #[.pointer (some ⟨b, 2, none⟩), .pointer (some ⟨b, 3, none⟩)] 197 (0, 0)))) (blk_below HB.out (hBe (.cells #[.pointer (some ⟨b, 2, none⟩), .pointer (some ⟨b, 3, none⟩)] 197 (0, 0)))) Hb.out (((hBe (.cells #[.pointer (some ⟨b, 2, none⟩), .pointer (some ⟨b, 3, none⟩)] 197 (0, 0))).cell (p := ⟨g, 0, none⟩) (World.block_lt_of_cell? W0 _ H0.out)).trans H0.out) (((hBe (.cells #[.pointer (some ⟨b, 2, none⟩), .pointer (some ⟨b, 3, none⟩)] 197 (0, 0))).cell (p := ⟨g, 1, none⟩) (World.block_lt_of_cell? W0 _ H1.out)).trans H1.out) (((hBe (.cells #[.pointer (some ⟨b, 2, none⟩), .pointer (some ⟨b, 3, none⟩)] 197 (0, 0))).cell (p := ⟨g, 2, none⟩) (World.block_lt_of_cell? W0 _ H2.out)).trans H2.out) HD.out b0 b1 b2).mono (R' := fun e w' => e = .returned (.tuple #[]) ∧ w'.heap[b]? = some (.cells #[.string a, .int .u8 26, .int .u8 x0, .int .u8 x1, .int .u8 v3, .int .i32 x2, .string t] 65 (0, 0)) ∧ Below B w w' ∧ w'.cell? ⟨w.heap.size, 0, none⟩ = some (.pointer (some ⟨b, 1, none⟩))) (fun e w' h => ⟨h.1, h.2.1, (blw_leB HBb.out hBw).trans ((blw_leB (hBe _) hBW).trans h.2.2.1), (World.cell?_of_block (h.2.2.2 _ hbW)).trans (hgb _)⟩))
  clear hBe HL HG HB HBb hbW hBW hBw H0 H1 H2
  have HA := Aside0.mk hga
  have HB' := Aside0.mk hgb
  clear hga hgb
  go_region_held (fun w' => w'.cell? ⟨w.heap.size, 0, none⟩ = some (.pointer (some ⟨b, 1, none⟩))) (first | exact hgd | exact HA.out _ | exact HB'.out _ | assumption) (first | (refine CC.out.mono ?_; rintro e w' ⟨rfl, hbk, hbl, hce⟩))
  all_goals (go_end0; exact ⟨rfl, by assumption, by assumption⟩)

set_option maxHeartbeats 4000000 in
set_option maxRecDepth 100000 in
theorem numbers_30_3 (w : World) (B b c g : Nat) (v1 v2 v3 v4 : Int) (a t : ByteArray) (x0 x1 x2 : Int)
    (hB : w.heap[b]? = some (.cells #[.string a, .int .u8 30, .int .u8 v1, .int .u8 v2, .int .u8 v3, .int .i32 v4, .string t] 65 (0, 0))) (hb : B ≤ b)
    (h0 : w.cell? ⟨g, 0, none⟩ = some (.int .i64 x0)) (h1 : w.cell? ⟨g, 1, none⟩ = some (.int .i64 x1)) (h2 : w.cell? ⟨g, 2, none⟩ = some (.int .i64 x2)) (hne : g ≠ b) (b0 : 0 ≤ x0 ∧ x0 ≤ 255) (b1 : 0 ≤ x1 ∧ x1 ≤ 255) (b2 : 0 ≤ x2 ∧ x2 ≤ 255) :
    Calls Tryz.prog 93 #[.pointer (some ⟨b, 1, none⟩), .slice (some ⟨g, 0, none⟩) 3 c] w fun e w' =>
      e = .returned (.tuple #[]) ∧ w'.heap[b]? = some (.cells #[.string a, .int .u8 30, .int .u8 x0, .int .u8 x1, .int .u8 x2, .int .i32 v4, .string t] 65 (0, 0)) ∧ Below B w w' := by
  have hB2 := blk_alloc (blk_alloc hB (.cells #[.pointer (some ⟨b, 1, none⟩)] 150 (0, 0))) (.cells #[.slice (some ⟨g, 0, none⟩) 3 c] 82 (0, 0))
  have hG2 := blk_alloc (blk_new w (.cells #[.pointer (some ⟨b, 1, none⟩)] 150 (0, 0))) (.cells #[.slice (some ⟨g, 0, none⟩) 3 c] 82 (0, 0))
  have hL2 := blk_new (w.alloc (.cells #[.pointer (some ⟨b, 1, none⟩)] 150 (0, 0))) (.cells #[.slice (some ⟨g, 0, none⟩) 3 c] 82 (0, 0))
  have hBb : Below w.heap.size w ((w.alloc (.cells #[.pointer (some ⟨b, 1, none⟩)] 150 (0, 0))).alloc (.cells #[.slice (some ⟨g, 0, none⟩) 3 c] 82 (0, 0))) := below_alloc (below_alloc (Below.refl _ _) _) _
  have hbw : b < w.heap.size := blk_lt hB
  have h0' := (hBb.cell (p := ⟨g, 0, none⟩) (World.block_lt_of_cell? w _ h0)).trans h0
  have h1' := (hBb.cell (p := ⟨g, 1, none⟩) (World.block_lt_of_cell? w _ h1)).trans h1
  have h2' := (hBb.cell (p := ⟨g, 2, none⟩) (World.block_lt_of_cell? w _ h2)).trans h2
  have k1 := blk_cell hB2 1
  simp only [List.getElem?_toArray, List.getElem?_cons_zero, List.getElem?_cons_succ] at k1
  have hz : (w.alloc (.cells #[.pointer (some ⟨b, 1, none⟩)] 150 (0, 0))).heap.size = w.heap.size + 1 := by simp
  rw [hz] at hL2
  have HB := Aside0.mk hB2
  have HG := Aside0.mk hG2
  have HL := Aside0.mk hL2
  have HBb := Aside0.mk hBb
  have Hb := Aside0.mk hb
  have HW := Aside0.mk hbw
  have HD := Aside0.mk hne
  have H0 := Aside0.mk h0'
  have H1 := Aside0.mk h1'
  have H2 := Aside0.mk h2'
  clear hB hb hne h0 h0' h1 h1' h2 h2' hB2 hG2 hL2 hBb hz hbw
  go_enter Tryz.func93, Tryz.ntmps93
  go_wp2_with fail
  have hgi := blk_cell HG.out 0
  simp only [List.getElem?_toArray, List.getElem?_cons_zero] at hgi
  clear k1
  generalize (w.alloc (.cells #[.pointer (some ⟨b, 1, none⟩)] 150 (0, 0))).alloc (.cells #[.slice (some ⟨g, 0, none⟩) 3 c] 82 (0, 0)) = W0 at *
  have hgd : W0.drew.cell? ⟨w.heap.size, 0, none⟩ = some (.pointer (some ⟨b, 1, none⟩)) := hgi
  have hga : ∀ o, (W0.drew.alloc o).cell? ⟨w.heap.size, 0, none⟩ = some (.pointer (some ⟨b, 1, none⟩)) := fun o => by rw [World.cell?_alloc_some _ _ _ (by rw [hgd]; rfl)]; exact hgd
  have hgb : ∀ o, (W0.alloc o).drew.cell? ⟨w.heap.size, 0, none⟩ = some (.pointer (some ⟨b, 1, none⟩)) := hga
  have hBw : B ≤ w.heap.size := by have := HW.out; have := Hb.out; omega
  have hBW : B ≤ W0.heap.size := Nat.le_trans hBw HBb.out.size
  have hbW : w.heap.size ≠ b := by have := HW.out; omega
  have hBe : ∀ o, Below W0.heap.size W0 (W0.alloc o).drew := fun o => below_drew (below_alloc (Below.refl _ _) o)
  have CC := Aside0.mk ((clos_33 (W0.alloc (.cells #[.pointer (some ⟨b, 2, none⟩), .pointer (some ⟨b, 3, none⟩), .pointer (some ⟨b, 4, none⟩)] 197 (0, 0))).drew B b W0.heap.size (w.heap.size + 1) w.heap.size c g 30 v1 v2 v3 v4 a t x0 x1 x2 (blk_drew (blk_new _ _)) (blk_below HL.out (hBe (.cells #[.pointer (some ⟨b, 2, none⟩), .pointer (some ⟨b, 3, none⟩), .pointer (some ⟨b, 4, none⟩)] 197 (0, 0)))) (blk_below HG.out (hBe (.cells #[.pointer (some ⟨b, 2, none⟩), .pointer (some ⟨b, 3, none⟩), .pointer (some ⟨b, 4, none⟩)] 197 (0, 0)))) (blk_below HB.out (hBe (.cells #[.pointer (some ⟨b, 2, none⟩), .pointer (some ⟨b, 3, none⟩), .pointer (some ⟨b, 4, none⟩)] 197 (0, 0)))) Hb.out (((hBe (.cells #[.pointer (some ⟨b, 2, none⟩), .pointer (some ⟨b, 3, none⟩), .pointer (some ⟨b, 4, none⟩)] 197 (0, 0))).cell (p := ⟨g, 0, none⟩) (World.block_lt_of_cell? W0 _ H0.out)).trans H0.out) (((hBe (.cells #[.pointer (some ⟨b, 2, none⟩), .pointer (some ⟨b, 3, none⟩), .pointer (some ⟨b, 4, none⟩)] 197 (0, 0))).cell (p := ⟨g, 1, none⟩) (World.block_lt_of_cell? W0 _ H1.out)).trans H1.out) (((hBe (.cells #[.pointer (some ⟨b, 2, none⟩), .pointer (some ⟨b, 3, none⟩), .pointer (some ⟨b, 4, none⟩)] 197 (0, 0))).cell (p := ⟨g, 2, none⟩) (World.block_lt_of_cell? W0 _ H2.out)).trans H2.out) HD.out b0 b1 b2).mono (R' := fun e w' => e = .returned (.tuple #[]) ∧ w'.heap[b]? = some (.cells #[.string a, .int .u8 30, .int .u8 x0, .int .u8 x1, .int .u8 x2, .int .i32 v4, .string t] 65 (0, 0)) ∧ Below B w w' ∧ w'.cell? ⟨w.heap.size, 0, none⟩ = some (.pointer (some ⟨b, 1, none⟩))) (fun e w' h => ⟨h.1, h.2.1, (blw_leB HBb.out hBw).trans ((blw_leB (hBe _) hBW).trans h.2.2.1), (World.cell?_of_block (h.2.2.2 _ hbW)).trans (hgb _)⟩))
  clear hBe HL HG HB HBb hbW hBW hBw H0 H1 H2
  have HA := Aside0.mk hga
  have HB' := Aside0.mk hgb
  clear hga hgb
  go_region_held (fun w' => w'.cell? ⟨w.heap.size, 0, none⟩ = some (.pointer (some ⟨b, 1, none⟩))) (first | exact hgd | exact HA.out _ | exact HB'.out _ | assumption) (first | (refine CC.out.mono ?_; rintro e w' ⟨rfl, hbk, hbl, hce⟩))
  all_goals (go_end0; exact ⟨rfl, by assumption, by assumption⟩)

set_option maxHeartbeats 4000000 in
set_option maxRecDepth 100000 in
theorem numbers_38_3 (w : World) (B b c g : Nat) (v1 v2 v3 v4 : Int) (a t : ByteArray) (x0 x1 x2 : Int)
    (hB : w.heap[b]? = some (.cells #[.string a, .int .u8 38, .int .u8 v1, .int .u8 v2, .int .u8 v3, .int .i32 v4, .string t] 65 (0, 0))) (hb : B ≤ b)
    (h0 : w.cell? ⟨g, 0, none⟩ = some (.int .i64 x0)) (h1 : w.cell? ⟨g, 1, none⟩ = some (.int .i64 x1)) (h2 : w.cell? ⟨g, 2, none⟩ = some (.int .i64 x2)) (hne : g ≠ b) (b0 : 0 ≤ x0 ∧ x0 ≤ 255) (b1 : 0 ≤ x1 ∧ x1 ≤ 255) (b2 : 0 ≤ x2 ∧ x2 ≤ 255) :
    Calls Tryz.prog 93 #[.pointer (some ⟨b, 1, none⟩), .slice (some ⟨g, 0, none⟩) 3 c] w fun e w' =>
      e = .returned (.tuple #[]) ∧ w'.heap[b]? = some (.cells #[.string a, .int .u8 38, .int .u8 x0, .int .u8 x1, .int .u8 x2, .int .i32 v4, .string t] 65 (0, 0)) ∧ Below B w w' := by
  have hB2 := blk_alloc (blk_alloc hB (.cells #[.pointer (some ⟨b, 1, none⟩)] 150 (0, 0))) (.cells #[.slice (some ⟨g, 0, none⟩) 3 c] 82 (0, 0))
  have hG2 := blk_alloc (blk_new w (.cells #[.pointer (some ⟨b, 1, none⟩)] 150 (0, 0))) (.cells #[.slice (some ⟨g, 0, none⟩) 3 c] 82 (0, 0))
  have hL2 := blk_new (w.alloc (.cells #[.pointer (some ⟨b, 1, none⟩)] 150 (0, 0))) (.cells #[.slice (some ⟨g, 0, none⟩) 3 c] 82 (0, 0))
  have hBb : Below w.heap.size w ((w.alloc (.cells #[.pointer (some ⟨b, 1, none⟩)] 150 (0, 0))).alloc (.cells #[.slice (some ⟨g, 0, none⟩) 3 c] 82 (0, 0))) := below_alloc (below_alloc (Below.refl _ _) _) _
  have hbw : b < w.heap.size := blk_lt hB
  have h0' := (hBb.cell (p := ⟨g, 0, none⟩) (World.block_lt_of_cell? w _ h0)).trans h0
  have h1' := (hBb.cell (p := ⟨g, 1, none⟩) (World.block_lt_of_cell? w _ h1)).trans h1
  have h2' := (hBb.cell (p := ⟨g, 2, none⟩) (World.block_lt_of_cell? w _ h2)).trans h2
  have k1 := blk_cell hB2 1
  simp only [List.getElem?_toArray, List.getElem?_cons_zero, List.getElem?_cons_succ] at k1
  have hz : (w.alloc (.cells #[.pointer (some ⟨b, 1, none⟩)] 150 (0, 0))).heap.size = w.heap.size + 1 := by simp
  rw [hz] at hL2
  have HB := Aside0.mk hB2
  have HG := Aside0.mk hG2
  have HL := Aside0.mk hL2
  have HBb := Aside0.mk hBb
  have Hb := Aside0.mk hb
  have HW := Aside0.mk hbw
  have HD := Aside0.mk hne
  have H0 := Aside0.mk h0'
  have H1 := Aside0.mk h1'
  have H2 := Aside0.mk h2'
  clear hB hb hne h0 h0' h1 h1' h2 h2' hB2 hG2 hL2 hBb hz hbw
  go_enter Tryz.func93, Tryz.ntmps93
  go_wp2_with fail
  have hgi := blk_cell HG.out 0
  simp only [List.getElem?_toArray, List.getElem?_cons_zero] at hgi
  clear k1
  generalize (w.alloc (.cells #[.pointer (some ⟨b, 1, none⟩)] 150 (0, 0))).alloc (.cells #[.slice (some ⟨g, 0, none⟩) 3 c] 82 (0, 0)) = W0 at *
  have hgd : W0.drew.cell? ⟨w.heap.size, 0, none⟩ = some (.pointer (some ⟨b, 1, none⟩)) := hgi
  have hga : ∀ o, (W0.drew.alloc o).cell? ⟨w.heap.size, 0, none⟩ = some (.pointer (some ⟨b, 1, none⟩)) := fun o => by rw [World.cell?_alloc_some _ _ _ (by rw [hgd]; rfl)]; exact hgd
  have hgb : ∀ o, (W0.alloc o).drew.cell? ⟨w.heap.size, 0, none⟩ = some (.pointer (some ⟨b, 1, none⟩)) := hga
  have hBw : B ≤ w.heap.size := by have := HW.out; have := Hb.out; omega
  have hBW : B ≤ W0.heap.size := Nat.le_trans hBw HBb.out.size
  have hbW : w.heap.size ≠ b := by have := HW.out; omega
  have hBe : ∀ o, Below W0.heap.size W0 (W0.alloc o).drew := fun o => below_drew (below_alloc (Below.refl _ _) o)
  have CC := Aside0.mk ((clos_33 (W0.alloc (.cells #[.pointer (some ⟨b, 2, none⟩), .pointer (some ⟨b, 3, none⟩), .pointer (some ⟨b, 4, none⟩)] 197 (0, 0))).drew B b W0.heap.size (w.heap.size + 1) w.heap.size c g 38 v1 v2 v3 v4 a t x0 x1 x2 (blk_drew (blk_new _ _)) (blk_below HL.out (hBe (.cells #[.pointer (some ⟨b, 2, none⟩), .pointer (some ⟨b, 3, none⟩), .pointer (some ⟨b, 4, none⟩)] 197 (0, 0)))) (blk_below HG.out (hBe (.cells #[.pointer (some ⟨b, 2, none⟩), .pointer (some ⟨b, 3, none⟩), .pointer (some ⟨b, 4, none⟩)] 197 (0, 0)))) (blk_below HB.out (hBe (.cells #[.pointer (some ⟨b, 2, none⟩), .pointer (some ⟨b, 3, none⟩), .pointer (some ⟨b, 4, none⟩)] 197 (0, 0)))) Hb.out (((hBe (.cells #[.pointer (some ⟨b, 2, none⟩), .pointer (some ⟨b, 3, none⟩), .pointer (some ⟨b, 4, none⟩)] 197 (0, 0))).cell (p := ⟨g, 0, none⟩) (World.block_lt_of_cell? W0 _ H0.out)).trans H0.out) (((hBe (.cells #[.pointer (some ⟨b, 2, none⟩), .pointer (some ⟨b, 3, none⟩), .pointer (some ⟨b, 4, none⟩)] 197 (0, 0))).cell (p := ⟨g, 1, none⟩) (World.block_lt_of_cell? W0 _ H1.out)).trans H1.out) (((hBe (.cells #[.pointer (some ⟨b, 2, none⟩), .pointer (some ⟨b, 3, none⟩), .pointer (some ⟨b, 4, none⟩)] 197 (0, 0))).cell (p := ⟨g, 2, none⟩) (World.block_lt_of_cell? W0 _ H2.out)).trans H2.out) HD.out b0 b1 b2).mono (R' := fun e w' => e = .returned (.tuple #[]) ∧ w'.heap[b]? = some (.cells #[.string a, .int .u8 38, .int .u8 x0, .int .u8 x1, .int .u8 x2, .int .i32 v4, .string t] 65 (0, 0)) ∧ Below B w w' ∧ w'.cell? ⟨w.heap.size, 0, none⟩ = some (.pointer (some ⟨b, 1, none⟩))) (fun e w' h => ⟨h.1, h.2.1, (blw_leB HBb.out hBw).trans ((blw_leB (hBe _) hBW).trans h.2.2.1), (World.cell?_of_block (h.2.2.2 _ hbW)).trans (hgb _)⟩))
  clear hBe HL HG HB HBb hbW hBW hBw H0 H1 H2
  have HA := Aside0.mk hga
  have HB' := Aside0.mk hgb
  clear hga hgb
  go_region_held (fun w' => w'.cell? ⟨w.heap.size, 0, none⟩ = some (.pointer (some ⟨b, 1, none⟩))) (first | exact hgd | exact HA.out _ | exact HB'.out _ | assumption) (first | (refine CC.out.mono ?_; rintro e w' ⟨rfl, hbk, hbl, hce⟩))
  all_goals (go_end0; exact ⟨rfl, by assumption, by assumption⟩)

set_option maxHeartbeats 4000000 in
set_option maxRecDepth 100000 in
theorem numbers_50_3 (w : World) (B b c g : Nat) (v1 v2 v3 v4 : Int) (a t : ByteArray) (x0 x1 x2 : Int)
    (hB : w.heap[b]? = some (.cells #[.string a, .int .u8 50, .int .u8 v1, .int .u8 v2, .int .u8 v3, .int .i32 v4, .string t] 65 (0, 0))) (hb : B ≤ b)
    (h0 : w.cell? ⟨g, 0, none⟩ = some (.int .i64 x0)) (h1 : w.cell? ⟨g, 1, none⟩ = some (.int .i64 x1)) (h2 : w.cell? ⟨g, 2, none⟩ = some (.int .i64 x2)) (hne : g ≠ b) (b0 : 0 ≤ x0 ∧ x0 ≤ 255) (b1 : 0 ≤ x1 ∧ x1 ≤ 255) (b2 : 0 ≤ x2 ∧ x2 ≤ 255) :
    Calls Tryz.prog 93 #[.pointer (some ⟨b, 1, none⟩), .slice (some ⟨g, 0, none⟩) 3 c] w fun e w' =>
      e = .returned (.tuple #[]) ∧ w'.heap[b]? = some (.cells #[.string a, .int .u8 50, .int .u8 x0, .int .u8 x1, .int .u8 x2, .int .i32 v4, .string t] 65 (0, 0)) ∧ Below B w w' := by
  have hB2 := blk_alloc (blk_alloc hB (.cells #[.pointer (some ⟨b, 1, none⟩)] 150 (0, 0))) (.cells #[.slice (some ⟨g, 0, none⟩) 3 c] 82 (0, 0))
  have hG2 := blk_alloc (blk_new w (.cells #[.pointer (some ⟨b, 1, none⟩)] 150 (0, 0))) (.cells #[.slice (some ⟨g, 0, none⟩) 3 c] 82 (0, 0))
  have hL2 := blk_new (w.alloc (.cells #[.pointer (some ⟨b, 1, none⟩)] 150 (0, 0))) (.cells #[.slice (some ⟨g, 0, none⟩) 3 c] 82 (0, 0))
  have hBb : Below w.heap.size w ((w.alloc (.cells #[.pointer (some ⟨b, 1, none⟩)] 150 (0, 0))).alloc (.cells #[.slice (some ⟨g, 0, none⟩) 3 c] 82 (0, 0))) := below_alloc (below_alloc (Below.refl _ _) _) _
  have hbw : b < w.heap.size := blk_lt hB
  have h0' := (hBb.cell (p := ⟨g, 0, none⟩) (World.block_lt_of_cell? w _ h0)).trans h0
  have h1' := (hBb.cell (p := ⟨g, 1, none⟩) (World.block_lt_of_cell? w _ h1)).trans h1
  have h2' := (hBb.cell (p := ⟨g, 2, none⟩) (World.block_lt_of_cell? w _ h2)).trans h2
  have k1 := blk_cell hB2 1
  simp only [List.getElem?_toArray, List.getElem?_cons_zero, List.getElem?_cons_succ] at k1
  have hz : (w.alloc (.cells #[.pointer (some ⟨b, 1, none⟩)] 150 (0, 0))).heap.size = w.heap.size + 1 := by simp
  rw [hz] at hL2
  have HB := Aside0.mk hB2
  have HG := Aside0.mk hG2
  have HL := Aside0.mk hL2
  have HBb := Aside0.mk hBb
  have Hb := Aside0.mk hb
  have HW := Aside0.mk hbw
  have HD := Aside0.mk hne
  have H0 := Aside0.mk h0'
  have H1 := Aside0.mk h1'
  have H2 := Aside0.mk h2'
  clear hB hb hne h0 h0' h1 h1' h2 h2' hB2 hG2 hL2 hBb hz hbw
  go_enter Tryz.func93, Tryz.ntmps93
  go_wp2_with fail
  have hgi := blk_cell HG.out 0
  simp only [List.getElem?_toArray, List.getElem?_cons_zero] at hgi
  clear k1
  generalize (w.alloc (.cells #[.pointer (some ⟨b, 1, none⟩)] 150 (0, 0))).alloc (.cells #[.slice (some ⟨g, 0, none⟩) 3 c] 82 (0, 0)) = W0 at *
  have hgd : W0.drew.cell? ⟨w.heap.size, 0, none⟩ = some (.pointer (some ⟨b, 1, none⟩)) := hgi
  have hga : ∀ o, (W0.drew.alloc o).cell? ⟨w.heap.size, 0, none⟩ = some (.pointer (some ⟨b, 1, none⟩)) := fun o => by rw [World.cell?_alloc_some _ _ _ (by rw [hgd]; rfl)]; exact hgd
  have hgb : ∀ o, (W0.alloc o).drew.cell? ⟨w.heap.size, 0, none⟩ = some (.pointer (some ⟨b, 1, none⟩)) := hga
  have hBw : B ≤ w.heap.size := by have := HW.out; have := Hb.out; omega
  have hBW : B ≤ W0.heap.size := Nat.le_trans hBw HBb.out.size
  have hbW : w.heap.size ≠ b := by have := HW.out; omega
  have hBe : ∀ o, Below W0.heap.size W0 (W0.alloc o).drew := fun o => below_drew (below_alloc (Below.refl _ _) o)
  have CC := Aside0.mk ((clos_33 (W0.alloc (.cells #[.pointer (some ⟨b, 2, none⟩), .pointer (some ⟨b, 3, none⟩), .pointer (some ⟨b, 4, none⟩)] 197 (0, 0))).drew B b W0.heap.size (w.heap.size + 1) w.heap.size c g 50 v1 v2 v3 v4 a t x0 x1 x2 (blk_drew (blk_new _ _)) (blk_below HL.out (hBe (.cells #[.pointer (some ⟨b, 2, none⟩), .pointer (some ⟨b, 3, none⟩), .pointer (some ⟨b, 4, none⟩)] 197 (0, 0)))) (blk_below HG.out (hBe (.cells #[.pointer (some ⟨b, 2, none⟩), .pointer (some ⟨b, 3, none⟩), .pointer (some ⟨b, 4, none⟩)] 197 (0, 0)))) (blk_below HB.out (hBe (.cells #[.pointer (some ⟨b, 2, none⟩), .pointer (some ⟨b, 3, none⟩), .pointer (some ⟨b, 4, none⟩)] 197 (0, 0)))) Hb.out (((hBe (.cells #[.pointer (some ⟨b, 2, none⟩), .pointer (some ⟨b, 3, none⟩), .pointer (some ⟨b, 4, none⟩)] 197 (0, 0))).cell (p := ⟨g, 0, none⟩) (World.block_lt_of_cell? W0 _ H0.out)).trans H0.out) (((hBe (.cells #[.pointer (some ⟨b, 2, none⟩), .pointer (some ⟨b, 3, none⟩), .pointer (some ⟨b, 4, none⟩)] 197 (0, 0))).cell (p := ⟨g, 1, none⟩) (World.block_lt_of_cell? W0 _ H1.out)).trans H1.out) (((hBe (.cells #[.pointer (some ⟨b, 2, none⟩), .pointer (some ⟨b, 3, none⟩), .pointer (some ⟨b, 4, none⟩)] 197 (0, 0))).cell (p := ⟨g, 2, none⟩) (World.block_lt_of_cell? W0 _ H2.out)).trans H2.out) HD.out b0 b1 b2).mono (R' := fun e w' => e = .returned (.tuple #[]) ∧ w'.heap[b]? = some (.cells #[.string a, .int .u8 50, .int .u8 x0, .int .u8 x1, .int .u8 x2, .int .i32 v4, .string t] 65 (0, 0)) ∧ Below B w w' ∧ w'.cell? ⟨w.heap.size, 0, none⟩ = some (.pointer (some ⟨b, 1, none⟩))) (fun e w' h => ⟨h.1, h.2.1, (blw_leB HBb.out hBw).trans ((blw_leB (hBe _) hBW).trans h.2.2.1), (World.cell?_of_block (h.2.2.2 _ hbW)).trans (hgb _)⟩))
  clear hBe HL HG HB HBb hbW hBW hBw H0 H1 H2
  have HA := Aside0.mk hga
  have HB' := Aside0.mk hgb
  clear hga hgb
  go_region_held (fun w' => w'.cell? ⟨w.heap.size, 0, none⟩ = some (.pointer (some ⟨b, 1, none⟩))) (first | exact hgd | exact HA.out _ | exact HB'.out _ | assumption) (first | (refine CC.out.mono ?_; rintro e w' ⟨rfl, hbk, hbl, hce⟩))
  all_goals (go_end0; exact ⟨rfl, by assumption, by assumption⟩)

set_option maxHeartbeats 4000000 in
set_option maxRecDepth 100000 in
theorem numbers_53_3 (w : World) (B b c g : Nat) (v1 v2 v3 v4 : Int) (a t : ByteArray) (x0 x1 x2 : Int)
    (hB : w.heap[b]? = some (.cells #[.string a, .int .u8 53, .int .u8 v1, .int .u8 v2, .int .u8 v3, .int .i32 v4, .string t] 65 (0, 0))) (hb : B ≤ b)
    (h0 : w.cell? ⟨g, 0, none⟩ = some (.int .i64 x0)) (h1 : w.cell? ⟨g, 1, none⟩ = some (.int .i64 x1)) (h2 : w.cell? ⟨g, 2, none⟩ = some (.int .i64 x2)) (hne : g ≠ b) (b0 : 0 ≤ x0 ∧ x0 ≤ 255) (b1 : 0 ≤ x1 ∧ x1 ≤ 255) (b2 : 0 ≤ x2 ∧ x2 ≤ 255) :
    Calls Tryz.prog 93 #[.pointer (some ⟨b, 1, none⟩), .slice (some ⟨g, 0, none⟩) 3 c] w fun e w' =>
      e = .returned (.tuple #[]) ∧ w'.heap[b]? = some (.cells #[.string a, .int .u8 53, .int .u8 x0, .int .u8 x1, .int .u8 x2, .int .i32 v4, .string t] 65 (0, 0)) ∧ Below B w w' := by
  have hB2 := blk_alloc (blk_alloc hB (.cells #[.pointer (some ⟨b, 1, none⟩)] 150 (0, 0))) (.cells #[.slice (some ⟨g, 0, none⟩) 3 c] 82 (0, 0))
  have hG2 := blk_alloc (blk_new w (.cells #[.pointer (some ⟨b, 1, none⟩)] 150 (0, 0))) (.cells #[.slice (some ⟨g, 0, none⟩) 3 c] 82 (0, 0))
  have hL2 := blk_new (w.alloc (.cells #[.pointer (some ⟨b, 1, none⟩)] 150 (0, 0))) (.cells #[.slice (some ⟨g, 0, none⟩) 3 c] 82 (0, 0))
  have hBb : Below w.heap.size w ((w.alloc (.cells #[.pointer (some ⟨b, 1, none⟩)] 150 (0, 0))).alloc (.cells #[.slice (some ⟨g, 0, none⟩) 3 c] 82 (0, 0))) := below_alloc (below_alloc (Below.refl _ _) _) _
  have hbw : b < w.heap.size := blk_lt hB
  have h0' := (hBb.cell (p := ⟨g, 0, none⟩) (World.block_lt_of_cell? w _ h0)).trans h0
  have h1' := (hBb.cell (p := ⟨g, 1, none⟩) (World.block_lt_of_cell? w _ h1)).trans h1
  have h2' := (hBb.cell (p := ⟨g, 2, none⟩) (World.block_lt_of_cell? w _ h2)).trans h2
  have k1 := blk_cell hB2 1
  simp only [List.getElem?_toArray, List.getElem?_cons_zero, List.getElem?_cons_succ] at k1
  have hz : (w.alloc (.cells #[.pointer (some ⟨b, 1, none⟩)] 150 (0, 0))).heap.size = w.heap.size + 1 := by simp
  rw [hz] at hL2
  have HB := Aside0.mk hB2
  have HG := Aside0.mk hG2
  have HL := Aside0.mk hL2
  have HBb := Aside0.mk hBb
  have Hb := Aside0.mk hb
  have HW := Aside0.mk hbw
  have HD := Aside0.mk hne
  have H0 := Aside0.mk h0'
  have H1 := Aside0.mk h1'
  have H2 := Aside0.mk h2'
  clear hB hb hne h0 h0' h1 h1' h2 h2' hB2 hG2 hL2 hBb hz hbw
  go_enter Tryz.func93, Tryz.ntmps93
  go_wp2_with fail
  have hgi := blk_cell HG.out 0
  simp only [List.getElem?_toArray, List.getElem?_cons_zero] at hgi
  clear k1
  generalize (w.alloc (.cells #[.pointer (some ⟨b, 1, none⟩)] 150 (0, 0))).alloc (.cells #[.slice (some ⟨g, 0, none⟩) 3 c] 82 (0, 0)) = W0 at *
  have hgd : W0.drew.cell? ⟨w.heap.size, 0, none⟩ = some (.pointer (some ⟨b, 1, none⟩)) := hgi
  have hga : ∀ o, (W0.drew.alloc o).cell? ⟨w.heap.size, 0, none⟩ = some (.pointer (some ⟨b, 1, none⟩)) := fun o => by rw [World.cell?_alloc_some _ _ _ (by rw [hgd]; rfl)]; exact hgd
  have hgb : ∀ o, (W0.alloc o).drew.cell? ⟨w.heap.size, 0, none⟩ = some (.pointer (some ⟨b, 1, none⟩)) := hga
  have hBw : B ≤ w.heap.size := by have := HW.out; have := Hb.out; omega
  have hBW : B ≤ W0.heap.size := Nat.le_trans hBw HBb.out.size
  have hbW : w.heap.size ≠ b := by have := HW.out; omega
  have hBe : ∀ o, Below W0.heap.size W0 (W0.alloc o).drew := fun o => below_drew (below_alloc (Below.refl _ _) o)
  have CC := Aside0.mk ((clos_33 (W0.alloc (.cells #[.pointer (some ⟨b, 2, none⟩), .pointer (some ⟨b, 3, none⟩), .pointer (some ⟨b, 4, none⟩)] 197 (0, 0))).drew B b W0.heap.size (w.heap.size + 1) w.heap.size c g 53 v1 v2 v3 v4 a t x0 x1 x2 (blk_drew (blk_new _ _)) (blk_below HL.out (hBe (.cells #[.pointer (some ⟨b, 2, none⟩), .pointer (some ⟨b, 3, none⟩), .pointer (some ⟨b, 4, none⟩)] 197 (0, 0)))) (blk_below HG.out (hBe (.cells #[.pointer (some ⟨b, 2, none⟩), .pointer (some ⟨b, 3, none⟩), .pointer (some ⟨b, 4, none⟩)] 197 (0, 0)))) (blk_below HB.out (hBe (.cells #[.pointer (some ⟨b, 2, none⟩), .pointer (some ⟨b, 3, none⟩), .pointer (some ⟨b, 4, none⟩)] 197 (0, 0)))) Hb.out (((hBe (.cells #[.pointer (some ⟨b, 2, none⟩), .pointer (some ⟨b, 3, none⟩), .pointer (some ⟨b, 4, none⟩)] 197 (0, 0))).cell (p := ⟨g, 0, none⟩) (World.block_lt_of_cell? W0 _ H0.out)).trans H0.out) (((hBe (.cells #[.pointer (some ⟨b, 2, none⟩), .pointer (some ⟨b, 3, none⟩), .pointer (some ⟨b, 4, none⟩)] 197 (0, 0))).cell (p := ⟨g, 1, none⟩) (World.block_lt_of_cell? W0 _ H1.out)).trans H1.out) (((hBe (.cells #[.pointer (some ⟨b, 2, none⟩), .pointer (some ⟨b, 3, none⟩), .pointer (some ⟨b, 4, none⟩)] 197 (0, 0))).cell (p := ⟨g, 2, none⟩) (World.block_lt_of_cell? W0 _ H2.out)).trans H2.out) HD.out b0 b1 b2).mono (R' := fun e w' => e = .returned (.tuple #[]) ∧ w'.heap[b]? = some (.cells #[.string a, .int .u8 53, .int .u8 x0, .int .u8 x1, .int .u8 x2, .int .i32 v4, .string t] 65 (0, 0)) ∧ Below B w w' ∧ w'.cell? ⟨w.heap.size, 0, none⟩ = some (.pointer (some ⟨b, 1, none⟩))) (fun e w' h => ⟨h.1, h.2.1, (blw_leB HBb.out hBw).trans ((blw_leB (hBe _) hBW).trans h.2.2.1), (World.cell?_of_block (h.2.2.2 _ hbW)).trans (hgb _)⟩))
  clear hBe HL HG HB HBb hbW hBW hBw H0 H1 H2
  have HA := Aside0.mk hga
  have HB' := Aside0.mk hgb
  clear hga hgb
  go_region_held (fun w' => w'.cell? ⟨w.heap.size, 0, none⟩ = some (.pointer (some ⟨b, 1, none⟩))) (first | exact hgd | exact HA.out _ | exact HB'.out _ | assumption) (first | (refine CC.out.mono ?_; rintro e w' ⟨rfl, hbk, hbl, hce⟩))
  all_goals (go_end0; exact ⟨rfl, by assumption, by assumption⟩)

set_option maxHeartbeats 4000000 in
set_option maxRecDepth 100000 in
theorem numbers_57_2 (w : World) (B b c g : Nat) (v1 v2 v3 v4 : Int) (a t : ByteArray) (x0 x1 : Int)
    (hB : w.heap[b]? = some (.cells #[.string a, .int .u8 57, .int .u8 v1, .int .u8 v2, .int .u8 v3, .int .i32 v4, .string t] 65 (0, 0))) (hb : B ≤ b)
    (h0 : w.cell? ⟨g, 0, none⟩ = some (.int .i64 x0)) (h1 : w.cell? ⟨g, 1, none⟩ = some (.int .i64 x1)) (hne : g ≠ b) (b0 : 0 ≤ x0 ∧ x0 ≤ 255) (b1 : 0 ≤ x1 ∧ x1 ≤ 255) :
    Calls Tryz.prog 93 #[.pointer (some ⟨b, 1, none⟩), .slice (some ⟨g, 0, none⟩) 2 c] w fun e w' =>
      e = .returned (.tuple #[]) ∧ w'.heap[b]? = some (.cells #[.string a, .int .u8 57, .int .u8 x0, .int .u8 x1, .int .u8 v3, .int .i32 v4, .string t] 65 (0, 0)) ∧ Below B w w' := by
  have hB2 := blk_alloc (blk_alloc hB (.cells #[.pointer (some ⟨b, 1, none⟩)] 150 (0, 0))) (.cells #[.slice (some ⟨g, 0, none⟩) 2 c] 82 (0, 0))
  have hG2 := blk_alloc (blk_new w (.cells #[.pointer (some ⟨b, 1, none⟩)] 150 (0, 0))) (.cells #[.slice (some ⟨g, 0, none⟩) 2 c] 82 (0, 0))
  have hL2 := blk_new (w.alloc (.cells #[.pointer (some ⟨b, 1, none⟩)] 150 (0, 0))) (.cells #[.slice (some ⟨g, 0, none⟩) 2 c] 82 (0, 0))
  have hBb : Below w.heap.size w ((w.alloc (.cells #[.pointer (some ⟨b, 1, none⟩)] 150 (0, 0))).alloc (.cells #[.slice (some ⟨g, 0, none⟩) 2 c] 82 (0, 0))) := below_alloc (below_alloc (Below.refl _ _) _) _
  have hbw : b < w.heap.size := blk_lt hB
  have h0' := (hBb.cell (p := ⟨g, 0, none⟩) (World.block_lt_of_cell? w _ h0)).trans h0
  have h1' := (hBb.cell (p := ⟨g, 1, none⟩) (World.block_lt_of_cell? w _ h1)).trans h1
  have k1 := blk_cell hB2 1
  simp only [List.getElem?_toArray, List.getElem?_cons_zero, List.getElem?_cons_succ] at k1
  have hz : (w.alloc (.cells #[.pointer (some ⟨b, 1, none⟩)] 150 (0, 0))).heap.size = w.heap.size + 1 := by simp
  rw [hz] at hL2
  have HB := Aside0.mk hB2
  have HG := Aside0.mk hG2
  have HL := Aside0.mk hL2
  have HBb := Aside0.mk hBb
  have Hb := Aside0.mk hb
  have HW := Aside0.mk hbw
  have HD := Aside0.mk hne
  have H0 := Aside0.mk h0'
  have H1 := Aside0.mk h1'
  clear hB hb hne h0 h0' h1 h1' hB2 hG2 hL2 hBb hz hbw
  go_enter Tryz.func93, Tryz.ntmps93
  go_wp2_with fail
  have hgi := blk_cell HG.out 0
  simp only [List.getElem?_toArray, List.getElem?_cons_zero] at hgi
  clear k1
  generalize (w.alloc (.cells #[.pointer (some ⟨b, 1, none⟩)] 150 (0, 0))).alloc (.cells #[.slice (some ⟨g, 0, none⟩) 2 c] 82 (0, 0)) = W0 at *
  have hgd : W0.drew.cell? ⟨w.heap.size, 0, none⟩ = some (.pointer (some ⟨b, 1, none⟩)) := hgi
  have hga : ∀ o, (W0.drew.alloc o).cell? ⟨w.heap.size, 0, none⟩ = some (.pointer (some ⟨b, 1, none⟩)) := fun o => by rw [World.cell?_alloc_some _ _ _ (by rw [hgd]; rfl)]; exact hgd
  have hgb : ∀ o, (W0.alloc o).drew.cell? ⟨w.heap.size, 0, none⟩ = some (.pointer (some ⟨b, 1, none⟩)) := hga
  have hBw : B ≤ w.heap.size := by have := HW.out; have := Hb.out; omega
  have hBW : B ≤ W0.heap.size := Nat.le_trans hBw HBb.out.size
  have hbW : w.heap.size ≠ b := by have := HW.out; omega
  have hBe : ∀ o, Below W0.heap.size W0 (W0.alloc o).drew := fun o => below_drew (below_alloc (Below.refl _ _) o)
  have CC := Aside0.mk ((clos_22 (W0.alloc (.cells #[.pointer (some ⟨b, 2, none⟩), .pointer (some ⟨b, 3, none⟩)] 197 (0, 0))).drew B b W0.heap.size (w.heap.size + 1) w.heap.size c g 57 v1 v2 v3 v4 a t x0 x1 (blk_drew (blk_new _ _)) (blk_below HL.out (hBe (.cells #[.pointer (some ⟨b, 2, none⟩), .pointer (some ⟨b, 3, none⟩)] 197 (0, 0)))) (blk_below HG.out (hBe (.cells #[.pointer (some ⟨b, 2, none⟩), .pointer (some ⟨b, 3, none⟩)] 197 (0, 0)))) (blk_below HB.out (hBe (.cells #[.pointer (some ⟨b, 2, none⟩), .pointer (some ⟨b, 3, none⟩)] 197 (0, 0)))) Hb.out (((hBe (.cells #[.pointer (some ⟨b, 2, none⟩), .pointer (some ⟨b, 3, none⟩)] 197 (0, 0))).cell (p := ⟨g, 0, none⟩) (World.block_lt_of_cell? W0 _ H0.out)).trans H0.out) (((hBe (.cells #[.pointer (some ⟨b, 2, none⟩), .pointer (some ⟨b, 3, none⟩)] 197 (0, 0))).cell (p := ⟨g, 1, none⟩) (World.block_lt_of_cell? W0 _ H1.out)).trans H1.out) HD.out b0 b1).mono (R' := fun e w' => e = .returned (.tuple #[]) ∧ w'.heap[b]? = some (.cells #[.string a, .int .u8 57, .int .u8 x0, .int .u8 x1, .int .u8 v3, .int .i32 v4, .string t] 65 (0, 0)) ∧ Below B w w' ∧ w'.cell? ⟨w.heap.size, 0, none⟩ = some (.pointer (some ⟨b, 1, none⟩))) (fun e w' h => ⟨h.1, h.2.1, (blw_leB HBb.out hBw).trans ((blw_leB (hBe _) hBW).trans h.2.2.1), (World.cell?_of_block (h.2.2.2 _ hbW)).trans (hgb _)⟩))
  clear hBe HL HG HB HBb hbW hBW hBw H0 H1
  have HA := Aside0.mk hga
  have HB' := Aside0.mk hgb
  clear hga hgb
  go_region_held (fun w' => w'.cell? ⟨w.heap.size, 0, none⟩ = some (.pointer (some ⟨b, 1, none⟩))) (first | exact hgd | exact HA.out _ | exact HB'.out _ | assumption) (first | (refine CC.out.mono ?_; rintro e w' ⟨rfl, hbk, hbl, hce⟩))
  all_goals (go_end0; exact ⟨rfl, by assumption, by assumption⟩)

set_option maxHeartbeats 4000000 in
set_option maxRecDepth 100000 in
theorem numbers_59_2 (w : World) (B b c g : Nat) (v1 v2 v3 v4 : Int) (a t : ByteArray) (x0 x1 : Int)
    (hB : w.heap[b]? = some (.cells #[.string a, .int .u8 59, .int .u8 v1, .int .u8 v2, .int .u8 v3, .int .i32 v4, .string t] 65 (0, 0))) (hb : B ≤ b)
    (h0 : w.cell? ⟨g, 0, none⟩ = some (.int .i64 x0)) (h1 : w.cell? ⟨g, 1, none⟩ = some (.int .i64 x1)) (hne : g ≠ b) (b0 : 0 ≤ x0 ∧ x0 ≤ 255) (b1 : 0 ≤ x1 ∧ x1 ≤ 255) :
    Calls Tryz.prog 93 #[.pointer (some ⟨b, 1, none⟩), .slice (some ⟨g, 0, none⟩) 2 c] w fun e w' =>
      e = .returned (.tuple #[]) ∧ w'.heap[b]? = some (.cells #[.string a, .int .u8 59, .int .u8 x0, .int .u8 x1, .int .u8 v3, .int .i32 v4, .string t] 65 (0, 0)) ∧ Below B w w' := by
  have hB2 := blk_alloc (blk_alloc hB (.cells #[.pointer (some ⟨b, 1, none⟩)] 150 (0, 0))) (.cells #[.slice (some ⟨g, 0, none⟩) 2 c] 82 (0, 0))
  have hG2 := blk_alloc (blk_new w (.cells #[.pointer (some ⟨b, 1, none⟩)] 150 (0, 0))) (.cells #[.slice (some ⟨g, 0, none⟩) 2 c] 82 (0, 0))
  have hL2 := blk_new (w.alloc (.cells #[.pointer (some ⟨b, 1, none⟩)] 150 (0, 0))) (.cells #[.slice (some ⟨g, 0, none⟩) 2 c] 82 (0, 0))
  have hBb : Below w.heap.size w ((w.alloc (.cells #[.pointer (some ⟨b, 1, none⟩)] 150 (0, 0))).alloc (.cells #[.slice (some ⟨g, 0, none⟩) 2 c] 82 (0, 0))) := below_alloc (below_alloc (Below.refl _ _) _) _
  have hbw : b < w.heap.size := blk_lt hB
  have h0' := (hBb.cell (p := ⟨g, 0, none⟩) (World.block_lt_of_cell? w _ h0)).trans h0
  have h1' := (hBb.cell (p := ⟨g, 1, none⟩) (World.block_lt_of_cell? w _ h1)).trans h1
  have k1 := blk_cell hB2 1
  simp only [List.getElem?_toArray, List.getElem?_cons_zero, List.getElem?_cons_succ] at k1
  have hz : (w.alloc (.cells #[.pointer (some ⟨b, 1, none⟩)] 150 (0, 0))).heap.size = w.heap.size + 1 := by simp
  rw [hz] at hL2
  have HB := Aside0.mk hB2
  have HG := Aside0.mk hG2
  have HL := Aside0.mk hL2
  have HBb := Aside0.mk hBb
  have Hb := Aside0.mk hb
  have HW := Aside0.mk hbw
  have HD := Aside0.mk hne
  have H0 := Aside0.mk h0'
  have H1 := Aside0.mk h1'
  clear hB hb hne h0 h0' h1 h1' hB2 hG2 hL2 hBb hz hbw
  go_enter Tryz.func93, Tryz.ntmps93
  go_wp2_with fail
  have hgi := blk_cell HG.out 0
  simp only [List.getElem?_toArray, List.getElem?_cons_zero] at hgi
  clear k1
  generalize (w.alloc (.cells #[.pointer (some ⟨b, 1, none⟩)] 150 (0, 0))).alloc (.cells #[.slice (some ⟨g, 0, none⟩) 2 c] 82 (0, 0)) = W0 at *
  have hgd : W0.drew.cell? ⟨w.heap.size, 0, none⟩ = some (.pointer (some ⟨b, 1, none⟩)) := hgi
  have hga : ∀ o, (W0.drew.alloc o).cell? ⟨w.heap.size, 0, none⟩ = some (.pointer (some ⟨b, 1, none⟩)) := fun o => by rw [World.cell?_alloc_some _ _ _ (by rw [hgd]; rfl)]; exact hgd
  have hgb : ∀ o, (W0.alloc o).drew.cell? ⟨w.heap.size, 0, none⟩ = some (.pointer (some ⟨b, 1, none⟩)) := hga
  have hBw : B ≤ w.heap.size := by have := HW.out; have := Hb.out; omega
  have hBW : B ≤ W0.heap.size := Nat.le_trans hBw HBb.out.size
  have hbW : w.heap.size ≠ b := by have := HW.out; omega
  have hBe : ∀ o, Below W0.heap.size W0 (W0.alloc o).drew := fun o => below_drew (below_alloc (Below.refl _ _) o)
  have CC := Aside0.mk ((clos_22 (W0.alloc (.cells #[.pointer (some ⟨b, 2, none⟩), .pointer (some ⟨b, 3, none⟩)] 197 (0, 0))).drew B b W0.heap.size (w.heap.size + 1) w.heap.size c g 59 v1 v2 v3 v4 a t x0 x1 (blk_drew (blk_new _ _)) (blk_below HL.out (hBe (.cells #[.pointer (some ⟨b, 2, none⟩), .pointer (some ⟨b, 3, none⟩)] 197 (0, 0)))) (blk_below HG.out (hBe (.cells #[.pointer (some ⟨b, 2, none⟩), .pointer (some ⟨b, 3, none⟩)] 197 (0, 0)))) (blk_below HB.out (hBe (.cells #[.pointer (some ⟨b, 2, none⟩), .pointer (some ⟨b, 3, none⟩)] 197 (0, 0)))) Hb.out (((hBe (.cells #[.pointer (some ⟨b, 2, none⟩), .pointer (some ⟨b, 3, none⟩)] 197 (0, 0))).cell (p := ⟨g, 0, none⟩) (World.block_lt_of_cell? W0 _ H0.out)).trans H0.out) (((hBe (.cells #[.pointer (some ⟨b, 2, none⟩), .pointer (some ⟨b, 3, none⟩)] 197 (0, 0))).cell (p := ⟨g, 1, none⟩) (World.block_lt_of_cell? W0 _ H1.out)).trans H1.out) HD.out b0 b1).mono (R' := fun e w' => e = .returned (.tuple #[]) ∧ w'.heap[b]? = some (.cells #[.string a, .int .u8 59, .int .u8 x0, .int .u8 x1, .int .u8 v3, .int .i32 v4, .string t] 65 (0, 0)) ∧ Below B w w' ∧ w'.cell? ⟨w.heap.size, 0, none⟩ = some (.pointer (some ⟨b, 1, none⟩))) (fun e w' h => ⟨h.1, h.2.1, (blw_leB HBb.out hBw).trans ((blw_leB (hBe _) hBW).trans h.2.2.1), (World.cell?_of_block (h.2.2.2 _ hbW)).trans (hgb _)⟩))
  clear hBe HL HG HB HBb hbW hBW hBw H0 H1
  have HA := Aside0.mk hga
  have HB' := Aside0.mk hgb
  clear hga hgb
  go_region_held (fun w' => w'.cell? ⟨w.heap.size, 0, none⟩ = some (.pointer (some ⟨b, 1, none⟩))) (first | exact hgd | exact HA.out _ | exact HB'.out _ | assumption) (first | (refine CC.out.mono ?_; rintro e w' ⟨rfl, hbk, hbl, hce⟩))
  all_goals (go_end0; exact ⟨rfl, by assumption, by assumption⟩)

set_option maxHeartbeats 4000000 in
set_option maxRecDepth 100000 in
theorem numbers_61_2 (w : World) (B b c g : Nat) (v1 v2 v3 v4 : Int) (a t : ByteArray) (x0 x1 : Int)
    (hB : w.heap[b]? = some (.cells #[.string a, .int .u8 61, .int .u8 v1, .int .u8 v2, .int .u8 v3, .int .i32 v4, .string t] 65 (0, 0))) (hb : B ≤ b)
    (h0 : w.cell? ⟨g, 0, none⟩ = some (.int .i64 x0)) (h1 : w.cell? ⟨g, 1, none⟩ = some (.int .i64 x1)) (hne : g ≠ b) (b0 : 0 ≤ x0 ∧ x0 ≤ 255) (b1 : 0 ≤ x1 ∧ x1 ≤ 255) :
    Calls Tryz.prog 93 #[.pointer (some ⟨b, 1, none⟩), .slice (some ⟨g, 0, none⟩) 2 c] w fun e w' =>
      e = .returned (.tuple #[]) ∧ w'.heap[b]? = some (.cells #[.string a, .int .u8 61, .int .u8 x0, .int .u8 x1, .int .u8 v3, .int .i32 v4, .string t] 65 (0, 0)) ∧ Below B w w' := by
  have hB2 := blk_alloc (blk_alloc hB (.cells #[.pointer (some ⟨b, 1, none⟩)] 150 (0, 0))) (.cells #[.slice (some ⟨g, 0, none⟩) 2 c] 82 (0, 0))
  have hG2 := blk_alloc (blk_new w (.cells #[.pointer (some ⟨b, 1, none⟩)] 150 (0, 0))) (.cells #[.slice (some ⟨g, 0, none⟩) 2 c] 82 (0, 0))
  have hL2 := blk_new (w.alloc (.cells #[.pointer (some ⟨b, 1, none⟩)] 150 (0, 0))) (.cells #[.slice (some ⟨g, 0, none⟩) 2 c] 82 (0, 0))
  have hBb : Below w.heap.size w ((w.alloc (.cells #[.pointer (some ⟨b, 1, none⟩)] 150 (0, 0))).alloc (.cells #[.slice (some ⟨g, 0, none⟩) 2 c] 82 (0, 0))) := below_alloc (below_alloc (Below.refl _ _) _) _
  have hbw : b < w.heap.size := blk_lt hB
  have h0' := (hBb.cell (p := ⟨g, 0, none⟩) (World.block_lt_of_cell? w _ h0)).trans h0
  have h1' := (hBb.cell (p := ⟨g, 1, none⟩) (World.block_lt_of_cell? w _ h1)).trans h1
  have k1 := blk_cell hB2 1
  simp only [List.getElem?_toArray, List.getElem?_cons_zero, List.getElem?_cons_succ] at k1
  have hz : (w.alloc (.cells #[.pointer (some ⟨b, 1, none⟩)] 150 (0, 0))).heap.size = w.heap.size + 1 := by simp
  rw [hz] at hL2
  have HB := Aside0.mk hB2
  have HG := Aside0.mk hG2
  have HL := Aside0.mk hL2
  have HBb := Aside0.mk hBb
  have Hb := Aside0.mk hb
  have HW := Aside0.mk hbw
  have HD := Aside0.mk hne
  have H0 := Aside0.mk h0'
  have H1 := Aside0.mk h1'
  clear hB hb hne h0 h0' h1 h1' hB2 hG2 hL2 hBb hz hbw
  go_enter Tryz.func93, Tryz.ntmps93
  go_wp2_with fail
  have hgi := blk_cell HG.out 0
  simp only [List.getElem?_toArray, List.getElem?_cons_zero] at hgi
  clear k1
  generalize (w.alloc (.cells #[.pointer (some ⟨b, 1, none⟩)] 150 (0, 0))).alloc (.cells #[.slice (some ⟨g, 0, none⟩) 2 c] 82 (0, 0)) = W0 at *
  have hgd : W0.drew.cell? ⟨w.heap.size, 0, none⟩ = some (.pointer (some ⟨b, 1, none⟩)) := hgi
  have hga : ∀ o, (W0.drew.alloc o).cell? ⟨w.heap.size, 0, none⟩ = some (.pointer (some ⟨b, 1, none⟩)) := fun o => by rw [World.cell?_alloc_some _ _ _ (by rw [hgd]; rfl)]; exact hgd
  have hgb : ∀ o, (W0.alloc o).drew.cell? ⟨w.heap.size, 0, none⟩ = some (.pointer (some ⟨b, 1, none⟩)) := hga
  have hBw : B ≤ w.heap.size := by have := HW.out; have := Hb.out; omega
  have hBW : B ≤ W0.heap.size := Nat.le_trans hBw HBb.out.size
  have hbW : w.heap.size ≠ b := by have := HW.out; omega
  have hBe : ∀ o, Below W0.heap.size W0 (W0.alloc o).drew := fun o => below_drew (below_alloc (Below.refl _ _) o)
  have CC := Aside0.mk ((clos_22 (W0.alloc (.cells #[.pointer (some ⟨b, 2, none⟩), .pointer (some ⟨b, 3, none⟩)] 197 (0, 0))).drew B b W0.heap.size (w.heap.size + 1) w.heap.size c g 61 v1 v2 v3 v4 a t x0 x1 (blk_drew (blk_new _ _)) (blk_below HL.out (hBe (.cells #[.pointer (some ⟨b, 2, none⟩), .pointer (some ⟨b, 3, none⟩)] 197 (0, 0)))) (blk_below HG.out (hBe (.cells #[.pointer (some ⟨b, 2, none⟩), .pointer (some ⟨b, 3, none⟩)] 197 (0, 0)))) (blk_below HB.out (hBe (.cells #[.pointer (some ⟨b, 2, none⟩), .pointer (some ⟨b, 3, none⟩)] 197 (0, 0)))) Hb.out (((hBe (.cells #[.pointer (some ⟨b, 2, none⟩), .pointer (some ⟨b, 3, none⟩)] 197 (0, 0))).cell (p := ⟨g, 0, none⟩) (World.block_lt_of_cell? W0 _ H0.out)).trans H0.out) (((hBe (.cells #[.pointer (some ⟨b, 2, none⟩), .pointer (some ⟨b, 3, none⟩)] 197 (0, 0))).cell (p := ⟨g, 1, none⟩) (World.block_lt_of_cell? W0 _ H1.out)).trans H1.out) HD.out b0 b1).mono (R' := fun e w' => e = .returned (.tuple #[]) ∧ w'.heap[b]? = some (.cells #[.string a, .int .u8 61, .int .u8 x0, .int .u8 x1, .int .u8 v3, .int .i32 v4, .string t] 65 (0, 0)) ∧ Below B w w' ∧ w'.cell? ⟨w.heap.size, 0, none⟩ = some (.pointer (some ⟨b, 1, none⟩))) (fun e w' h => ⟨h.1, h.2.1, (blw_leB HBb.out hBw).trans ((blw_leB (hBe _) hBW).trans h.2.2.1), (World.cell?_of_block (h.2.2.2 _ hbW)).trans (hgb _)⟩))
  clear hBe HL HG HB HBb hbW hBW hBw H0 H1
  have HA := Aside0.mk hga
  have HB' := Aside0.mk hgb
  clear hga hgb
  go_region_held (fun w' => w'.cell? ⟨w.heap.size, 0, none⟩ = some (.pointer (some ⟨b, 1, none⟩))) (first | exact hgd | exact HA.out _ | exact HB'.out _ | assumption) (first | (refine CC.out.mono ?_; rintro e w' ⟨rfl, hbk, hbl, hce⟩))
  all_goals (go_end0; exact ⟨rfl, by assumption, by assumption⟩)

set_option maxHeartbeats 4000000 in
set_option maxRecDepth 100000 in
theorem numbers_63_2 (w : World) (B b c g : Nat) (v1 v2 v3 v4 : Int) (a t : ByteArray) (x0 x1 : Int)
    (hB : w.heap[b]? = some (.cells #[.string a, .int .u8 63, .int .u8 v1, .int .u8 v2, .int .u8 v3, .int .i32 v4, .string t] 65 (0, 0))) (hb : B ≤ b)
    (h0 : w.cell? ⟨g, 0, none⟩ = some (.int .i64 x0)) (h1 : w.cell? ⟨g, 1, none⟩ = some (.int .i64 x1)) (hne : g ≠ b) (b0 : 0 ≤ x0 ∧ x0 ≤ 255) (b1 : 0 ≤ x1 ∧ x1 ≤ 255) :
    Calls Tryz.prog 93 #[.pointer (some ⟨b, 1, none⟩), .slice (some ⟨g, 0, none⟩) 2 c] w fun e w' =>
      e = .returned (.tuple #[]) ∧ w'.heap[b]? = some (.cells #[.string a, .int .u8 63, .int .u8 x0, .int .u8 x1, .int .u8 v3, .int .i32 v4, .string t] 65 (0, 0)) ∧ Below B w w' := by
  have hB2 := blk_alloc (blk_alloc hB (.cells #[.pointer (some ⟨b, 1, none⟩)] 150 (0, 0))) (.cells #[.slice (some ⟨g, 0, none⟩) 2 c] 82 (0, 0))
  have hG2 := blk_alloc (blk_new w (.cells #[.pointer (some ⟨b, 1, none⟩)] 150 (0, 0))) (.cells #[.slice (some ⟨g, 0, none⟩) 2 c] 82 (0, 0))
  have hL2 := blk_new (w.alloc (.cells #[.pointer (some ⟨b, 1, none⟩)] 150 (0, 0))) (.cells #[.slice (some ⟨g, 0, none⟩) 2 c] 82 (0, 0))
  have hBb : Below w.heap.size w ((w.alloc (.cells #[.pointer (some ⟨b, 1, none⟩)] 150 (0, 0))).alloc (.cells #[.slice (some ⟨g, 0, none⟩) 2 c] 82 (0, 0))) := below_alloc (below_alloc (Below.refl _ _) _) _
  have hbw : b < w.heap.size := blk_lt hB
  have h0' := (hBb.cell (p := ⟨g, 0, none⟩) (World.block_lt_of_cell? w _ h0)).trans h0
  have h1' := (hBb.cell (p := ⟨g, 1, none⟩) (World.block_lt_of_cell? w _ h1)).trans h1
  have k1 := blk_cell hB2 1
  simp only [List.getElem?_toArray, List.getElem?_cons_zero, List.getElem?_cons_succ] at k1
  have hz : (w.alloc (.cells #[.pointer (some ⟨b, 1, none⟩)] 150 (0, 0))).heap.size = w.heap.size + 1 := by simp
  rw [hz] at hL2
  have HB := Aside0.mk hB2
  have HG := Aside0.mk hG2
  have HL := Aside0.mk hL2
  have HBb := Aside0.mk hBb
  have Hb := Aside0.mk hb
  have HW := Aside0.mk hbw
  have HD := Aside0.mk hne
  have H0 := Aside0.mk h0'
  have H1 := Aside0.mk h1'
  clear hB hb hne h0 h0' h1 h1' hB2 hG2 hL2 hBb hz hbw
  go_enter Tryz.func93, Tryz.ntmps93
  go_wp2_with fail
  have hgi := blk_cell HG.out 0
  simp only [List.getElem?_toArray, List.getElem?_cons_zero] at hgi
  clear k1
  generalize (w.alloc (.cells #[.pointer (some ⟨b, 1, none⟩)] 150 (0, 0))).alloc (.cells #[.slice (some ⟨g, 0, none⟩) 2 c] 82 (0, 0)) = W0 at *
  have hgd : W0.drew.cell? ⟨w.heap.size, 0, none⟩ = some (.pointer (some ⟨b, 1, none⟩)) := hgi
  have hga : ∀ o, (W0.drew.alloc o).cell? ⟨w.heap.size, 0, none⟩ = some (.pointer (some ⟨b, 1, none⟩)) := fun o => by rw [World.cell?_alloc_some _ _ _ (by rw [hgd]; rfl)]; exact hgd
  have hgb : ∀ o, (W0.alloc o).drew.cell? ⟨w.heap.size, 0, none⟩ = some (.pointer (some ⟨b, 1, none⟩)) := hga
  have hBw : B ≤ w.heap.size := by have := HW.out; have := Hb.out; omega
  have hBW : B ≤ W0.heap.size := Nat.le_trans hBw HBb.out.size
  have hbW : w.heap.size ≠ b := by have := HW.out; omega
  have hBe : ∀ o, Below W0.heap.size W0 (W0.alloc o).drew := fun o => below_drew (below_alloc (Below.refl _ _) o)
  have CC := Aside0.mk ((clos_22 (W0.alloc (.cells #[.pointer (some ⟨b, 2, none⟩), .pointer (some ⟨b, 3, none⟩)] 197 (0, 0))).drew B b W0.heap.size (w.heap.size + 1) w.heap.size c g 63 v1 v2 v3 v4 a t x0 x1 (blk_drew (blk_new _ _)) (blk_below HL.out (hBe (.cells #[.pointer (some ⟨b, 2, none⟩), .pointer (some ⟨b, 3, none⟩)] 197 (0, 0)))) (blk_below HG.out (hBe (.cells #[.pointer (some ⟨b, 2, none⟩), .pointer (some ⟨b, 3, none⟩)] 197 (0, 0)))) (blk_below HB.out (hBe (.cells #[.pointer (some ⟨b, 2, none⟩), .pointer (some ⟨b, 3, none⟩)] 197 (0, 0)))) Hb.out (((hBe (.cells #[.pointer (some ⟨b, 2, none⟩), .pointer (some ⟨b, 3, none⟩)] 197 (0, 0))).cell (p := ⟨g, 0, none⟩) (World.block_lt_of_cell? W0 _ H0.out)).trans H0.out) (((hBe (.cells #[.pointer (some ⟨b, 2, none⟩), .pointer (some ⟨b, 3, none⟩)] 197 (0, 0))).cell (p := ⟨g, 1, none⟩) (World.block_lt_of_cell? W0 _ H1.out)).trans H1.out) HD.out b0 b1).mono (R' := fun e w' => e = .returned (.tuple #[]) ∧ w'.heap[b]? = some (.cells #[.string a, .int .u8 63, .int .u8 x0, .int .u8 x1, .int .u8 v3, .int .i32 v4, .string t] 65 (0, 0)) ∧ Below B w w' ∧ w'.cell? ⟨w.heap.size, 0, none⟩ = some (.pointer (some ⟨b, 1, none⟩))) (fun e w' h => ⟨h.1, h.2.1, (blw_leB HBb.out hBw).trans ((blw_leB (hBe _) hBW).trans h.2.2.1), (World.cell?_of_block (h.2.2.2 _ hbW)).trans (hgb _)⟩))
  clear hBe HL HG HB HBb hbW hBW hBw H0 H1
  have HA := Aside0.mk hga
  have HB' := Aside0.mk hgb
  clear hga hgb
  go_region_held (fun w' => w'.cell? ⟨w.heap.size, 0, none⟩ = some (.pointer (some ⟨b, 1, none⟩))) (first | exact hgd | exact HA.out _ | exact HB'.out _ | assumption) (first | (refine CC.out.mono ?_; rintro e w' ⟨rfl, hbk, hbl, hce⟩))
  all_goals (go_end0; exact ⟨rfl, by assumption, by assumption⟩)

set_option maxHeartbeats 4000000 in
set_option maxRecDepth 100000 in
theorem numbers_66_3 (w : World) (B b c g : Nat) (v1 v2 v3 v4 : Int) (a t : ByteArray) (x0 x1 x2 : Int)
    (hB : w.heap[b]? = some (.cells #[.string a, .int .u8 66, .int .u8 v1, .int .u8 v2, .int .u8 v3, .int .i32 v4, .string t] 65 (0, 0))) (hb : B ≤ b)
    (h0 : w.cell? ⟨g, 0, none⟩ = some (.int .i64 x0)) (h1 : w.cell? ⟨g, 1, none⟩ = some (.int .i64 x1)) (h2 : w.cell? ⟨g, 2, none⟩ = some (.int .i64 x2)) (hne : g ≠ b) (b0 : 0 ≤ x0 ∧ x0 ≤ 255) (b1 : 0 ≤ x1 ∧ x1 ≤ 255) (b2 : -100000 ≤ x2 ∧ x2 ≤ 100000) :
    Calls Tryz.prog 93 #[.pointer (some ⟨b, 1, none⟩), .slice (some ⟨g, 0, none⟩) 3 c] w fun e w' =>
      e = .returned (.tuple #[]) ∧ w'.heap[b]? = some (.cells #[.string a, .int .u8 66, .int .u8 x0, .int .u8 x1, .int .u8 v3, .int .i32 x2, .string t] 65 (0, 0)) ∧ Below B w w' := by
  have hB2 := blk_alloc (blk_alloc hB (.cells #[.pointer (some ⟨b, 1, none⟩)] 150 (0, 0))) (.cells #[.slice (some ⟨g, 0, none⟩) 3 c] 82 (0, 0))
  have hG2 := blk_alloc (blk_new w (.cells #[.pointer (some ⟨b, 1, none⟩)] 150 (0, 0))) (.cells #[.slice (some ⟨g, 0, none⟩) 3 c] 82 (0, 0))
  have hL2 := blk_new (w.alloc (.cells #[.pointer (some ⟨b, 1, none⟩)] 150 (0, 0))) (.cells #[.slice (some ⟨g, 0, none⟩) 3 c] 82 (0, 0))
  have hBb : Below w.heap.size w ((w.alloc (.cells #[.pointer (some ⟨b, 1, none⟩)] 150 (0, 0))).alloc (.cells #[.slice (some ⟨g, 0, none⟩) 3 c] 82 (0, 0))) := below_alloc (below_alloc (Below.refl _ _) _) _
  have hbw : b < w.heap.size := blk_lt hB
  have h0' := (hBb.cell (p := ⟨g, 0, none⟩) (World.block_lt_of_cell? w _ h0)).trans h0
  have h1' := (hBb.cell (p := ⟨g, 1, none⟩) (World.block_lt_of_cell? w _ h1)).trans h1
  have h2' := (hBb.cell (p := ⟨g, 2, none⟩) (World.block_lt_of_cell? w _ h2)).trans h2
  have k1 := blk_cell hB2 1
  simp only [List.getElem?_toArray, List.getElem?_cons_zero, List.getElem?_cons_succ] at k1
  have hz : (w.alloc (.cells #[.pointer (some ⟨b, 1, none⟩)] 150 (0, 0))).heap.size = w.heap.size + 1 := by simp
  rw [hz] at hL2
  have HB := Aside0.mk hB2
  have HG := Aside0.mk hG2
  have HL := Aside0.mk hL2
  have HBb := Aside0.mk hBb
  have Hb := Aside0.mk hb
  have HW := Aside0.mk hbw
  have HD := Aside0.mk hne
  have H0 := Aside0.mk h0'
  have H1 := Aside0.mk h1'
  have H2 := Aside0.mk h2'
  clear hB hb hne h0 h0' h1 h1' h2 h2' hB2 hG2 hL2 hBb hz hbw
  go_enter Tryz.func93, Tryz.ntmps93
  go_wp2_with fail
  have hgi := blk_cell HG.out 0
  simp only [List.getElem?_toArray, List.getElem?_cons_zero] at hgi
  clear k1
  generalize (w.alloc (.cells #[.pointer (some ⟨b, 1, none⟩)] 150 (0, 0))).alloc (.cells #[.slice (some ⟨g, 0, none⟩) 3 c] 82 (0, 0)) = W0 at *
  have hgd : W0.drew.cell? ⟨w.heap.size, 0, none⟩ = some (.pointer (some ⟨b, 1, none⟩)) := hgi
  have hga : ∀ o, (W0.drew.alloc o).cell? ⟨w.heap.size, 0, none⟩ = some (.pointer (some ⟨b, 1, none⟩)) := fun o => by rw [World.cell?_alloc_some _ _ _ (by rw [hgd]; rfl)]; exact hgd
  have hgb : ∀ o, (W0.alloc o).drew.cell? ⟨w.heap.size, 0, none⟩ = some (.pointer (some ⟨b, 1, none⟩)) := hga
  have hBw : B ≤ w.heap.size := by have := HW.out; have := Hb.out; omega
  have hBW : B ≤ W0.heap.size := Nat.le_trans hBw HBb.out.size
  have hbW : w.heap.size ≠ b := by have := HW.out; omega
  have hBe : ∀ o, Below W0.heap.size W0 (W0.alloc o).drew := fun o => below_drew (below_alloc (Below.refl _ _) o)
  have CC := Aside0.mk ((clos_23 (W0.alloc (.cells #[.pointer (some ⟨b, 2, none⟩), .pointer (some ⟨b, 3, none⟩)] 197 (0, 0))).drew B b W0.heap.size (w.heap.size + 1) w.heap.size c g 66 v1 v2 v3 v4 a t x0 x1 x2 (blk_drew (blk_new _ _)) (blk_below HL.out (hBe (.cells #[.pointer (some ⟨b, 2, none⟩), .pointer (some ⟨b, 3, none⟩)] 197 (0, 0)))) (blk_below HG.out (hBe (.cells #[.pointer (some ⟨b, 2, none⟩), .pointer (some ⟨b, 3, none⟩)] 197 (0, 0)))) (blk_below HB.out (hBe (.cells #[.pointer (some ⟨b, 2, none⟩), .pointer (some ⟨b, 3, none⟩)] 197 (0, 0)))) Hb.out (((hBe (.cells #[.pointer (some ⟨b, 2, none⟩), .pointer (some ⟨b, 3, none⟩)] 197 (0, 0))).cell (p := ⟨g, 0, none⟩) (World.block_lt_of_cell? W0 _ H0.out)).trans H0.out) (((hBe (.cells #[.pointer (some ⟨b, 2, none⟩), .pointer (some ⟨b, 3, none⟩)] 197 (0, 0))).cell (p := ⟨g, 1, none⟩) (World.block_lt_of_cell? W0 _ H1.out)).trans H1.out) (((hBe (.cells #[.pointer (some ⟨b, 2, none⟩), .pointer (some ⟨b, 3, none⟩)] 197 (0, 0))).cell (p := ⟨g, 2, none⟩) (World.block_lt_of_cell? W0 _ H2.out)).trans H2.out) HD.out b0 b1 b2).mono (R' := fun e w' => e = .returned (.tuple #[]) ∧ w'.heap[b]? = some (.cells #[.string a, .int .u8 66, .int .u8 x0, .int .u8 x1, .int .u8 v3, .int .i32 x2, .string t] 65 (0, 0)) ∧ Below B w w' ∧ w'.cell? ⟨w.heap.size, 0, none⟩ = some (.pointer (some ⟨b, 1, none⟩))) (fun e w' h => ⟨h.1, h.2.1, (blw_leB HBb.out hBw).trans ((blw_leB (hBe _) hBW).trans h.2.2.1), (World.cell?_of_block (h.2.2.2 _ hbW)).trans (hgb _)⟩))
  clear hBe HL HG HB HBb hbW hBW hBw H0 H1 H2
  have HA := Aside0.mk hga
  have HB' := Aside0.mk hgb
  clear hga hgb
  go_region_held (fun w' => w'.cell? ⟨w.heap.size, 0, none⟩ = some (.pointer (some ⟨b, 1, none⟩))) (first | exact hgd | exact HA.out _ | exact HB'.out _ | assumption) (first | (refine CC.out.mono ?_; rintro e w' ⟨rfl, hbk, hbl, hce⟩))
  all_goals (go_end0; exact ⟨rfl, by assumption, by assumption⟩)

end Go.Proofs.YtfbmjfponkkaeaaGreatDoor.Num
