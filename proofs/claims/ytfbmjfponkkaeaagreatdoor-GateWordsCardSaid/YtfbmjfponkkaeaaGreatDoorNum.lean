import Derived.Test.YtfbmjfponkkaeaaGreatDoorPrA
import Derived.Outline
namespace Go.Proofs.YtfbmjfponkkaeaaGreatDoor.Num
open Go.RowKit Go.Proofs.YtfbmjfponkkaeaaGreatDoorW.PrintWords Go.Proofs.YtfbmjfponkkaeaaGreatDoor.Pr
set_option linter.unusedVariables false
set_option linter.unusedSimpArgs false

set_option maxHeartbeats 4000000 in
set_option maxRecDepth 100000 in
theorem clos_00 (w : World) (B b  gl gi c : Nat) (s0 : Option Addr) (op v1 v2 v3 v4 : Int) (a t : ByteArray) 
     (hL : w.heap[gl]? = some (.cells #[.slice s0 0 c] 82 (0, 0))) (hI : w.heap[gi]? = some (.cells #[.pointer (some ⟨b, 1, none⟩)] 150 (0, 0)))
    (hB : w.heap[b]? = some (.cells #[.string a, .int .u8 op, .int .u8 v1, .int .u8 v2, .int .u8 v3, .int .i32 v4, .string t] 65 (0, 0))) (hb : B ≤ b)
       :
    Calls Tryz.prog 137 #[.slice none 0 0, .pointer (some ⟨gl, 0, none⟩), .pointer (some ⟨gi, 0, none⟩)] w fun e w' =>
      e = .returned (.tuple #[]) ∧ w'.heap[b]? = some (.cells #[.string a, .int .u8 op, .int .u8 v1, .int .u8 v2, .int .u8 v3, .int .i32 v4, .string t] 65 (0, 0)) ∧ Below B w w' ∧ (∀ k, k ≠ b → w'.heap[k]? = w.heap[k]?) := by
  have l0 := blk_cell hL 0
  have i0 := blk_cell hI 0
  have n2 : gl ≠ b := blk_ne hL hB (by decide)
  have n3 : gi ≠ b := blk_ne hI hB (by decide)
  have c2 := blk_cell hB 2
  have f2 := blk_frozen hB 2
  have c3 := blk_cell hB 3
  have f3 := blk_frozen hB 3
  have c4 := blk_cell hB 4
  have f4 := blk_frozen hB 4
  have c5 := blk_cell hB 5
  have f5 := blk_frozen hB 5
  simp only [List.getElem?_toArray, List.getElem?_cons_zero, List.getElem?_cons_succ] at  l0 i0 c2 c3 c4 c5
  have HL := Aside0.mk hL
  have HI := Aside0.mk hI
  have HB := Aside0.mk hB
  have Hb := Aside0.mk hb
  clear hL hI hB hb
  go_enter Tryz.func137, Tryz.ntmps137
  go_wp2_with fail
  refine wp_loop_rounds 1 ?_
  rw [rounds_succ]
  go_wp2_with fail
  go_end0
  exact ⟨rfl, HB.out, (Below.refl B w), fun k hk => rfl⟩

set_option maxHeartbeats 4000000 in
set_option maxRecDepth 100000 in
theorem clos_11 (w : World) (B b pb gl gi c g : Nat) (op v1 v2 v3 v4 : Int) (a t : ByteArray) (x0 : Int)
    (hP : w.heap[pb]? = some (.cells #[.pointer (some ⟨b, 2, none⟩)] 197 (0, 0))) (hL : w.heap[gl]? = some (.cells #[.slice (some ⟨g, 0, none⟩) 1 c] 82 (0, 0))) (hI : w.heap[gi]? = some (.cells #[.pointer (some ⟨b, 1, none⟩)] 150 (0, 0)))
    (hB : w.heap[b]? = some (.cells #[.string a, .int .u8 op, .int .u8 v1, .int .u8 v2, .int .u8 v3, .int .i32 v4, .string t] 65 (0, 0))) (hb : B ≤ b)
    (h0 : w.cell? ⟨g, 0, none⟩ = some (.int .i64 x0)) (hne : g ≠ b) (b0 : 0 ≤ x0 ∧ x0 ≤ 255) :
    Calls Tryz.prog 137 #[.slice (some ⟨pb, 0, none⟩) 1 1, .pointer (some ⟨gl, 0, none⟩), .pointer (some ⟨gi, 0, none⟩)] w fun e w' =>
      e = .returned (.tuple #[]) ∧ w'.heap[b]? = some (.cells #[.string a, .int .u8 op, .int .u8 x0, .int .u8 v2, .int .u8 v3, .int .i32 v4, .string t] 65 (0, 0)) ∧ Below B w w' ∧ (∀ k, k ≠ b → w'.heap[k]? = w.heap[k]?) := by
  have p0 := blk_cell hP 0
  have l0 := blk_cell hL 0
  have i0 := blk_cell hI 0
  have n1 : pb ≠ b := blk_ne hP hB (by decide)
  have n2 : gl ≠ b := blk_ne hL hB (by decide)
  have n3 : gi ≠ b := blk_ne hI hB (by decide)
  have c2 := blk_cell hB 2
  have f2 := blk_frozen hB 2
  have c3 := blk_cell hB 3
  have f3 := blk_frozen hB 3
  have c4 := blk_cell hB 4
  have f4 := blk_frozen hB 4
  have c5 := blk_cell hB 5
  have f5 := blk_frozen hB 5
  simp only [List.getElem?_toArray, List.getElem?_cons_zero, List.getElem?_cons_succ] at p0 l0 i0 c2 c3 c4 c5
  have HP := Aside0.mk hP
  clear hP
  have HL := Aside0.mk hL
  have HI := Aside0.mk hI
  have HB := Aside0.mk hB
  have Hb := Aside0.mk hb
  clear hL hI hB hb
  go_enter Tryz.func137, Tryz.ntmps137
  go_wp2_with fail
  refine wp_loop_rounds 2 ?_
  rw [rounds_succ]
  go_wp2_with fail
  rw [rounds_succ]
  go_wp2_with fail
  go_end0
  exact ⟨rfl, (blk_put HB.out 2 (.int .u8 x0) rfl), ((Below.refl B w).setCell (p := ⟨b, 2, none⟩) Hb.out _), fun k hk => ((Below.heap_setCell _ _ _ _ hk).trans rfl)⟩

set_option maxHeartbeats 4000000 in
set_option maxRecDepth 100000 in
theorem clos_22rs (w : World) (B b pb gl gi c g : Nat) (op v1 v2 v3 v4 : Int) (a t : ByteArray) (x0 x1 : Int)
    (hP : w.heap[pb]? = some (.cells #[.pointer (some ⟨b, 3, none⟩), .pointer (some ⟨b, 4, none⟩)] 197 (0, 0))) (hL : w.heap[gl]? = some (.cells #[.slice (some ⟨g, 0, none⟩) 2 c] 82 (0, 0))) (hI : w.heap[gi]? = some (.cells #[.pointer (some ⟨b, 1, none⟩)] 150 (0, 0)))
    (hB : w.heap[b]? = some (.cells #[.string a, .int .u8 op, .int .u8 v1, .int .u8 v2, .int .u8 v3, .int .i32 v4, .string t] 65 (0, 0))) (hb : B ≤ b)
    (h0 : w.cell? ⟨g, 0, none⟩ = some (.int .i64 x0)) (h1 : w.cell? ⟨g, 1, none⟩ = some (.int .i64 x1)) (hne : g ≠ b) (b0 : 0 ≤ x0 ∧ x0 ≤ 255) (b1 : 0 ≤ x1 ∧ x1 ≤ 255) :
    Calls Tryz.prog 137 #[.slice (some ⟨pb, 0, none⟩) 2 2, .pointer (some ⟨gl, 0, none⟩), .pointer (some ⟨gi, 0, none⟩)] w fun e w' =>
      e = .returned (.tuple #[]) ∧ w'.heap[b]? = some (.cells #[.string a, .int .u8 op, .int .u8 v1, .int .u8 x0, .int .u8 x1, .int .i32 v4, .string t] 65 (0, 0)) ∧ Below B w w' ∧ (∀ k, k ≠ b → w'.heap[k]? = w.heap[k]?) := by
  have p0 := blk_cell hP 0
  have p1 := blk_cell hP 1
  have l0 := blk_cell hL 0
  have i0 := blk_cell hI 0
  have n1 : pb ≠ b := blk_ne hP hB (by decide)
  have n2 : gl ≠ b := blk_ne hL hB (by decide)
  have n3 : gi ≠ b := blk_ne hI hB (by decide)
  have c2 := blk_cell hB 2
  have f2 := blk_frozen hB 2
  have c3 := blk_cell hB 3
  have f3 := blk_frozen hB 3
  have c4 := blk_cell hB 4
  have f4 := blk_frozen hB 4
  have c5 := blk_cell hB 5
  have f5 := blk_frozen hB 5
  simp only [List.getElem?_toArray, List.getElem?_cons_zero, List.getElem?_cons_succ] at p0 p1 l0 i0 c2 c3 c4 c5
  have HP := Aside0.mk hP
  clear hP
  have HL := Aside0.mk hL
  have HI := Aside0.mk hI
  have HB := Aside0.mk hB
  have Hb := Aside0.mk hb
  clear hL hI hB hb
  go_enter Tryz.func137, Tryz.ntmps137
  go_wp2_with fail
  refine wp_loop_rounds 3 ?_
  rw [rounds_succ]
  go_wp2_with fail
  rw [rounds_succ]
  go_wp2_with fail
  rw [rounds_succ]
  go_wp2_with fail
  go_end0
  exact ⟨rfl, (blk_put (blk_put HB.out 3 (.int .u8 x0) rfl) 4 (.int .u8 x1) rfl), (((Below.refl B w).setCell (p := ⟨b, 3, none⟩) Hb.out _).setCell (p := ⟨b, 4, none⟩) Hb.out _), fun k hk => ((Below.heap_setCell _ _ _ _ hk).trans ((Below.heap_setCell _ _ _ _ hk).trans rfl))⟩

set_option maxHeartbeats 4000000 in
set_option maxRecDepth 100000 in
theorem clos_23rs (w : World) (B b pb gl gi c g : Nat) (op v1 v2 v3 v4 : Int) (a t : ByteArray) (x0 x1 x2 : Int)
    (hP : w.heap[pb]? = some (.cells #[.pointer (some ⟨b, 3, none⟩), .pointer (some ⟨b, 4, none⟩)] 197 (0, 0))) (hL : w.heap[gl]? = some (.cells #[.slice (some ⟨g, 0, none⟩) 3 c] 82 (0, 0))) (hI : w.heap[gi]? = some (.cells #[.pointer (some ⟨b, 1, none⟩)] 150 (0, 0)))
    (hB : w.heap[b]? = some (.cells #[.string a, .int .u8 op, .int .u8 v1, .int .u8 v2, .int .u8 v3, .int .i32 v4, .string t] 65 (0, 0))) (hb : B ≤ b)
    (h0 : w.cell? ⟨g, 0, none⟩ = some (.int .i64 x0)) (h1 : w.cell? ⟨g, 1, none⟩ = some (.int .i64 x1)) (h2 : w.cell? ⟨g, 2, none⟩ = some (.int .i64 x2)) (hne : g ≠ b) (b0 : 0 ≤ x0 ∧ x0 ≤ 255) (b1 : 0 ≤ x1 ∧ x1 ≤ 255) (b2 : -100000 ≤ x2 ∧ x2 ≤ 100000) :
    Calls Tryz.prog 137 #[.slice (some ⟨pb, 0, none⟩) 2 2, .pointer (some ⟨gl, 0, none⟩), .pointer (some ⟨gi, 0, none⟩)] w fun e w' =>
      e = .returned (.tuple #[]) ∧ w'.heap[b]? = some (.cells #[.string a, .int .u8 op, .int .u8 v1, .int .u8 x0, .int .u8 x1, .int .i32 x2, .string t] 65 (0, 0)) ∧ Below B w w' ∧ (∀ k, k ≠ b → w'.heap[k]? = w.heap[k]?) := by
  have p0 := blk_cell hP 0
  have p1 := blk_cell hP 1
  have l0 := blk_cell hL 0
  have i0 := blk_cell hI 0
  have n1 : pb ≠ b := blk_ne hP hB (by decide)
  have n2 : gl ≠ b := blk_ne hL hB (by decide)
  have n3 : gi ≠ b := blk_ne hI hB (by decide)
  have c2 := blk_cell hB 2
  have f2 := blk_frozen hB 2
  have c3 := blk_cell hB 3
  have f3 := blk_frozen hB 3
  have c4 := blk_cell hB 4
  have f4 := blk_frozen hB 4
  have c5 := blk_cell hB 5
  have f5 := blk_frozen hB 5
  simp only [List.getElem?_toArray, List.getElem?_cons_zero, List.getElem?_cons_succ] at p0 p1 l0 i0 c2 c3 c4 c5
  have HP := Aside0.mk hP
  clear hP
  have HL := Aside0.mk hL
  have HI := Aside0.mk hI
  have HB := Aside0.mk hB
  have Hb := Aside0.mk hb
  clear hL hI hB hb
  go_enter Tryz.func137, Tryz.ntmps137
  go_wp2_with fail
  refine wp_loop_rounds 3 ?_
  rw [rounds_succ]
  go_wp2_with fail
  rw [rounds_succ]
  go_wp2_with fail
  rw [rounds_succ]
  go_wp2_with fail
  go_region
  go_end0
  exact ⟨rfl, (blk_put (blk_put (blk_put HB.out 3 (.int .u8 x0) rfl) 4 (.int .u8 x1) rfl) 5 (.int .i32 x2) rfl), ((((Below.refl B w).setCell (p := ⟨b, 3, none⟩) Hb.out _).setCell (p := ⟨b, 4, none⟩) Hb.out _).setCell (p := ⟨b, 5, none⟩) Hb.out _).drew, fun k hk => ((Below.heap_setCell _ _ _ _ hk).trans ((Below.heap_setCell _ _ _ _ hk).trans ((Below.heap_setCell _ _ _ _ hk).trans rfl)))⟩

set_option maxHeartbeats 4000000 in
set_option maxRecDepth 100000 in
theorem clos_22 (w : World) (B b pb gl gi c g : Nat) (op v1 v2 v3 v4 : Int) (a t : ByteArray) (x0 x1 : Int)
    (hP : w.heap[pb]? = some (.cells #[.pointer (some ⟨b, 2, none⟩), .pointer (some ⟨b, 3, none⟩)] 197 (0, 0))) (hL : w.heap[gl]? = some (.cells #[.slice (some ⟨g, 0, none⟩) 2 c] 82 (0, 0))) (hI : w.heap[gi]? = some (.cells #[.pointer (some ⟨b, 1, none⟩)] 150 (0, 0)))
    (hB : w.heap[b]? = some (.cells #[.string a, .int .u8 op, .int .u8 v1, .int .u8 v2, .int .u8 v3, .int .i32 v4, .string t] 65 (0, 0))) (hb : B ≤ b)
    (h0 : w.cell? ⟨g, 0, none⟩ = some (.int .i64 x0)) (h1 : w.cell? ⟨g, 1, none⟩ = some (.int .i64 x1)) (hne : g ≠ b) (b0 : 0 ≤ x0 ∧ x0 ≤ 255) (b1 : 0 ≤ x1 ∧ x1 ≤ 255) :
    Calls Tryz.prog 137 #[.slice (some ⟨pb, 0, none⟩) 2 2, .pointer (some ⟨gl, 0, none⟩), .pointer (some ⟨gi, 0, none⟩)] w fun e w' =>
      e = .returned (.tuple #[]) ∧ w'.heap[b]? = some (.cells #[.string a, .int .u8 op, .int .u8 x0, .int .u8 x1, .int .u8 v3, .int .i32 v4, .string t] 65 (0, 0)) ∧ Below B w w' ∧ (∀ k, k ≠ b → w'.heap[k]? = w.heap[k]?) := by
  have p0 := blk_cell hP 0
  have p1 := blk_cell hP 1
  have l0 := blk_cell hL 0
  have i0 := blk_cell hI 0
  have n1 : pb ≠ b := blk_ne hP hB (by decide)
  have n2 : gl ≠ b := blk_ne hL hB (by decide)
  have n3 : gi ≠ b := blk_ne hI hB (by decide)
  have c2 := blk_cell hB 2
  have f2 := blk_frozen hB 2
  have c3 := blk_cell hB 3
  have f3 := blk_frozen hB 3
  have c4 := blk_cell hB 4
  have f4 := blk_frozen hB 4
  have c5 := blk_cell hB 5
  have f5 := blk_frozen hB 5
  simp only [List.getElem?_toArray, List.getElem?_cons_zero, List.getElem?_cons_succ] at p0 p1 l0 i0 c2 c3 c4 c5
  have HP := Aside0.mk hP
  clear hP
  have HL := Aside0.mk hL
  have HI := Aside0.mk hI
  have HB := Aside0.mk hB
  have Hb := Aside0.mk hb
  clear hL hI hB hb
  go_enter Tryz.func137, Tryz.ntmps137
  go_wp2_with fail
  refine wp_loop_rounds 3 ?_
  rw [rounds_succ]
  go_wp2_with fail
  rw [rounds_succ]
  go_wp2_with fail
  rw [rounds_succ]
  go_wp2_with fail
  go_end0
  exact ⟨rfl, (blk_put (blk_put HB.out 2 (.int .u8 x0) rfl) 3 (.int .u8 x1) rfl), (((Below.refl B w).setCell (p := ⟨b, 2, none⟩) Hb.out _).setCell (p := ⟨b, 3, none⟩) Hb.out _), fun k hk => ((Below.heap_setCell _ _ _ _ hk).trans ((Below.heap_setCell _ _ _ _ hk).trans rfl))⟩

set_option maxHeartbeats 4000000 in
set_option maxRecDepth 100000 in
theorem clos_23 (w : World) (B b pb gl gi c g : Nat) (op v1 v2 v3 v4 : Int) (a t : ByteArray) (x0 x1 x2 : Int)
    (hP : w.heap[pb]? = some (.cells #[.pointer (some ⟨b, 2, none⟩), .pointer (some ⟨b, 3, none⟩)] 197 (0, 0))) (hL : w.heap[gl]? = some (.cells #[.slice (some ⟨g, 0, none⟩) 3 c] 82 (0, 0))) (hI : w.heap[gi]? = some (.cells #[.pointer (some ⟨b, 1, none⟩)] 150 (0, 0)))
    (hB : w.heap[b]? = some (.cells #[.string a, .int .u8 op, .int .u8 v1, .int .u8 v2, .int .u8 v3, .int .i32 v4, .string t] 65 (0, 0))) (hb : B ≤ b)
    (h0 : w.cell? ⟨g, 0, none⟩ = some (.int .i64 x0)) (h1 : w.cell? ⟨g, 1, none⟩ = some (.int .i64 x1)) (h2 : w.cell? ⟨g, 2, none⟩ = some (.int .i64 x2)) (hne : g ≠ b) (b0 : 0 ≤ x0 ∧ x0 ≤ 255) (b1 : 0 ≤ x1 ∧ x1 ≤ 255) (b2 : -100000 ≤ x2 ∧ x2 ≤ 100000) :
    Calls Tryz.prog 137 #[.slice (some ⟨pb, 0, none⟩) 2 2, .pointer (some ⟨gl, 0, none⟩), .pointer (some ⟨gi, 0, none⟩)] w fun e w' =>
      e = .returned (.tuple #[]) ∧ w'.heap[b]? = some (.cells #[.string a, .int .u8 op, .int .u8 x0, .int .u8 x1, .int .u8 v3, .int .i32 x2, .string t] 65 (0, 0)) ∧ Below B w w' ∧ (∀ k, k ≠ b → w'.heap[k]? = w.heap[k]?) := by
  have p0 := blk_cell hP 0
  have p1 := blk_cell hP 1
  have l0 := blk_cell hL 0
  have i0 := blk_cell hI 0
  have n1 : pb ≠ b := blk_ne hP hB (by decide)
  have n2 : gl ≠ b := blk_ne hL hB (by decide)
  have n3 : gi ≠ b := blk_ne hI hB (by decide)
  have c2 := blk_cell hB 2
  have f2 := blk_frozen hB 2
  have c3 := blk_cell hB 3
  have f3 := blk_frozen hB 3
  have c4 := blk_cell hB 4
  have f4 := blk_frozen hB 4
  have c5 := blk_cell hB 5
  have f5 := blk_frozen hB 5
  simp only [List.getElem?_toArray, List.getElem?_cons_zero, List.getElem?_cons_succ] at p0 p1 l0 i0 c2 c3 c4 c5
  have HP := Aside0.mk hP
  clear hP
  have HL := Aside0.mk hL
  have HI := Aside0.mk hI
  have HB := Aside0.mk hB
  have Hb := Aside0.mk hb
  clear hL hI hB hb
  go_enter Tryz.func137, Tryz.ntmps137
  go_wp2_with fail
  refine wp_loop_rounds 3 ?_
  rw [rounds_succ]
  go_wp2_with fail
  rw [rounds_succ]
  go_wp2_with fail
  rw [rounds_succ]
  go_wp2_with fail
  go_region
  go_end0
  exact ⟨rfl, (blk_put (blk_put (blk_put HB.out 2 (.int .u8 x0) rfl) 3 (.int .u8 x1) rfl) 5 (.int .i32 x2) rfl), ((((Below.refl B w).setCell (p := ⟨b, 2, none⟩) Hb.out _).setCell (p := ⟨b, 3, none⟩) Hb.out _).setCell (p := ⟨b, 5, none⟩) Hb.out _).drew, fun k hk => ((Below.heap_setCell _ _ _ _ hk).trans ((Below.heap_setCell _ _ _ _ hk).trans ((Below.heap_setCell _ _ _ _ hk).trans rfl)))⟩

set_option maxHeartbeats 4000000 in
set_option maxRecDepth 100000 in
theorem clos_33 (w : World) (B b pb gl gi c g : Nat) (op v1 v2 v3 v4 : Int) (a t : ByteArray) (x0 x1 x2 : Int)
    (hP : w.heap[pb]? = some (.cells #[.pointer (some ⟨b, 2, none⟩), .pointer (some ⟨b, 3, none⟩), .pointer (some ⟨b, 4, none⟩)] 197 (0, 0))) (hL : w.heap[gl]? = some (.cells #[.slice (some ⟨g, 0, none⟩) 3 c] 82 (0, 0))) (hI : w.heap[gi]? = some (.cells #[.pointer (some ⟨b, 1, none⟩)] 150 (0, 0)))
    (hB : w.heap[b]? = some (.cells #[.string a, .int .u8 op, .int .u8 v1, .int .u8 v2, .int .u8 v3, .int .i32 v4, .string t] 65 (0, 0))) (hb : B ≤ b)
    (h0 : w.cell? ⟨g, 0, none⟩ = some (.int .i64 x0)) (h1 : w.cell? ⟨g, 1, none⟩ = some (.int .i64 x1)) (h2 : w.cell? ⟨g, 2, none⟩ = some (.int .i64 x2)) (hne : g ≠ b) (b0 : 0 ≤ x0 ∧ x0 ≤ 255) (b1 : 0 ≤ x1 ∧ x1 ≤ 255) (b2 : 0 ≤ x2 ∧ x2 ≤ 255) :
    Calls Tryz.prog 137 #[.slice (some ⟨pb, 0, none⟩) 3 3, .pointer (some ⟨gl, 0, none⟩), .pointer (some ⟨gi, 0, none⟩)] w fun e w' =>
      e = .returned (.tuple #[]) ∧ w'.heap[b]? = some (.cells #[.string a, .int .u8 op, .int .u8 x0, .int .u8 x1, .int .u8 x2, .int .i32 v4, .string t] 65 (0, 0)) ∧ Below B w w' ∧ (∀ k, k ≠ b → w'.heap[k]? = w.heap[k]?) := by
  have p0 := blk_cell hP 0
  have p1 := blk_cell hP 1
  have p2 := blk_cell hP 2
  have l0 := blk_cell hL 0
  have i0 := blk_cell hI 0
  have n1 : pb ≠ b := blk_ne hP hB (by decide)
  have n2 : gl ≠ b := blk_ne hL hB (by decide)
  have n3 : gi ≠ b := blk_ne hI hB (by decide)
  have c2 := blk_cell hB 2
  have f2 := blk_frozen hB 2
  have c3 := blk_cell hB 3
  have f3 := blk_frozen hB 3
  have c4 := blk_cell hB 4
  have f4 := blk_frozen hB 4
  have c5 := blk_cell hB 5
  have f5 := blk_frozen hB 5
  simp only [List.getElem?_toArray, List.getElem?_cons_zero, List.getElem?_cons_succ] at p0 p1 p2 l0 i0 c2 c3 c4 c5
  have HP := Aside0.mk hP
  clear hP
  have HL := Aside0.mk hL
  have HI := Aside0.mk hI
  have HB := Aside0.mk hB
  have Hb := Aside0.mk hb
  clear hL hI hB hb
  go_enter Tryz.func137, Tryz.ntmps137
  go_wp2_with fail
  refine wp_loop_rounds 4 ?_
  rw [rounds_succ]
  go_wp2_with fail
  rw [rounds_succ]
  go_wp2_with fail
  rw [rounds_succ]
  go_wp2_with fail
  rw [rounds_succ]
  go_wp2_with fail
  go_end0
  exact ⟨rfl, (blk_put (blk_put (blk_put HB.out 2 (.int .u8 x0) rfl) 3 (.int .u8 x1) rfl) 4 (.int .u8 x2) rfl), ((((Below.refl B w).setCell (p := ⟨b, 2, none⟩) Hb.out _).setCell (p := ⟨b, 3, none⟩) Hb.out _).setCell (p := ⟨b, 4, none⟩) Hb.out _), fun k hk => ((Below.heap_setCell _ _ _ _ hk).trans ((Below.heap_setCell _ _ _ _ hk).trans ((Below.heap_setCell _ _ _ _ hk).trans rfl)))⟩
end Go.Proofs.YtfbmjfponkkaeaaGreatDoor.Num
