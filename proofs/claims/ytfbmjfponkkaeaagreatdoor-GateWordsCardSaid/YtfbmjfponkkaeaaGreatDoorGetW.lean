import Derived.Test.YtfbmjfponkkaeaaGreatDoorGetP
import Derived.Deep.RegionHeld
import Derived.Deep.DeepCutAuto
import Derived.Deep.CutBlock
namespace Go.Proofs.YtfbmjfponkkaeaaGreatDoor.Num
open Go.Proofs.YtfbmjfponkkaeaaGreatDoor.Fam Go.RowKit Go.Proofs.YtfbmjfponkkaeaaGreatDoorW.PrintWords Go.Proofs.YtfbmjfponkkaeaaGreatDoor.Pr Go.Maps
set_option linter.unusedVariables false
set_option linter.unusedSimpArgs false
attribute [local irreducible] bt sg
theorem forms_ok : ∀ k, k < 68 → ((theTable.getD k z119).f2 = 0 ∨ (theTable.getD k z119).f2 = 1 ∨ (theTable.getD k z119).f2 = 2 ∨ (theTable.getD k z119).f2 = 3 ∨ (theTable.getD k z119).f2 = 4 ∨ (theTable.getD k z119).f2 = 5 ∨ (theTable.getD k z119).f2 = 6 ∨ (theTable.getD k z119).f2 = 7 ∨ (theTable.getD k z119).f2 = 8 ∨ (theTable.getD k z119).f2 = 9 ∨ (theTable.getD k z119).f2 = 10) := by decide +kernel
theorem R_shape' {α : Type} {d : Kd α} {e : Nat} {w : World} {base : Nat} {ok : Nat → Prop} {v : Value} {xs : List α} (h : d.R e w base ok v xs) {n : Nat} (hl : xs.length = n) (hn : n ≠ 0) : ∃ g c, v = .slice (some ⟨g, 0, none⟩) n c ∧ d.R e w base ok (.slice (some ⟨g, 0, none⟩) n c) xs := by
  subst hl; exact R_shape h hn
set_option maxHeartbeats 40000000 in
set_option maxRecDepth 100000 in
theorem get_walk (w : World) (wv : Int) (i : S63) (hw0 : 0 ≤ wv) (hw1 : wv ≤ 4294967295) (h : getIn wv theTable = some i) : Calls Tryz.prog 29 #[.int .u32 wv] w fun e w' => e = .returned (.tuple #[.agg #[.int .u8 i.f0, .int .u8 i.f1, .int .u8 i.f2, .int .u8 i.f3, .int .i32 i.f4], .int .i64 0]) ∧ Below w.heap.size w w' := by
  have HB := Aside0.mk (below_1 w (.cells #[.int .u8 0, .int .u8 0, .int .u8 0, .int .u8 0, .int .i32 0] 63 (0, 0)))
  have BR := Aside0.mk (blk_new w (.cells #[.int .u8 0, .int .u8 0, .int .u8 0, .int .u8 0, .int .i32 0] 63 (0, 0)))
  have hu63 := Tryz.underlying63
  have HI : Aside0 (getIn wv (theTable.drop 0) = some i) := ⟨h⟩
  clear h
  go_enter Tryz.func29, Tryz.ntmps29
  go_wp2_with fail
  refine (bulwarkref05_Table.calls theTable _ rfl).mono ?_
  rintro e w1 ⟨v0, rfl, hR, hB⟩
  obtain ⟨g, c, rfl, hR2⟩ := R_shape' hR (n := 68) (by kernel_rfl) (by decide)
  have HT := Aside0.mk (TabAt.of_C (Kd.R_reads' hR2).2.2)
  replace BR := Aside0.mk (blk_below BR.out hB)
  replace HB := Aside0.mk (below_step HB.out hB)
  clear hR hR2 hB
  go_wp2_with fail
  go_loopg [5] 68 (fun q v w' => ∃ k : Nat, v = .int .i64 k ∧ q + k = 68 ∧ Aside0 (getIn wv (theTable.drop k) = some i) ∧ Aside0 (TabAt w' g 68 theTable) ∧ Aside0 (w'.heap[w.heap.size]? = some (.cells #[.int .u8 0, .int .u8 0, .int .u8 0, .int .u8 0, .int .i32 0] 63 (0, 0))) ∧ Aside0 (Below w.heap.size w w'))
  case atStart => exact ⟨0, rfl, rfl, HI, HT, BR, HB⟩
  case round =>
    clear HT BR HB HI
    obtain ⟨k, rfl, hq0, HI, HT, BR, HB⟩ := hrel
    have HQ := Aside0.mk hq0
    clear hq0
    by_cases hk : k < 68
    · have hd : decide ((k : Int) < 68) = true := decide_eq_true (by omega)
      obtain ⟨c0, c1, c2, c3, c4, c5⟩ := HT.out k hk
      have hfm := forms_ok k hk
      obtain ⟨pv, pe, hp1, hp2⟩ := get_step wv i k hk HI.out
      generalize theTable.getD k z119 = r at *
      obtain ⟨o, nm, fm, x3, x4, x5⟩ := r
      simp only at c0 c1 c2 c3 c4 c5 hfm
      simp only [decR] at hp1 hp2
      have HP1 := Aside0.mk hp1
      have HP2 := Aside0.mk hp2
      clear hp1 hp2
      have BX := Aside0.mk (blk_new wr (.cells #[.int .u8 o, .string nm, .int .i64 fm, .int .u32 x3, .int .u32 x4, .int .u32 x5] 119 (0, 0)))
      have HB1 := Aside0.mk (below_1 wr (.cells #[.int .u8 o, .string nm, .int .i64 fm, .int .u32 x3, .int .u32 x4, .int .u32 x5] 119 (0, 0)))
      have hsz : (wr.alloc (.cells #[.int .u8 o, .string nm, .int .i64 fm, .int .u32 x3, .int .u32 x4, .int .u32 x5] 119 (0, 0))).heap.size = wr.heap.size + 1 := by simp
      have HZ := Aside0.mk hsz
      clear hsz
      go_wp2_with fail
      generalize wr.alloc (.cells #[.int .u8 o, .string nm, .int .i64 fm, .int .u32 x3, .int .u32 x4, .int .u32 x5] 119 (0, 0)) = W0 at *
      clear c0 c1 c2 c3 c4 c5
      go_cut [6, 7] (fun v6 v7 wc => v6 = .pointer (some ⟨wr.heap.size, 0, none⟩) ∧ v7 = .pointer (some ⟨W0.heap.size, 0, none⟩) ∧ wc = (W0.alloc (.cells #[.int .u8 o, .int .u8 (IntKind.u8.wrap (bt wv 7 5)), .int .u8 (IntKind.u8.wrap (bt wv 15 5)), .int .u8 (IntKind.u8.wrap (bt wv 20 5)), .int .i32 0] 63 (0, 0))).drew)
      case first =>
        have k0 := blk_cell BX.out 0
        simp only [List.getElem?_toArray, List.getElem?_cons_zero] at k0
        have hgd : W0.drew.cell? ⟨wr.heap.size, 0, none⟩ = some (.int .u8 o) := k0
        have hga : ∀ o_, (W0.drew.alloc o_).cell? ⟨wr.heap.size, 0, none⟩ = some (.int .u8 o) := fun o_ => by rw [World.cell?_alloc_some _ _ _ (by rw [hgd]; rfl)]; exact hgd
        have HA1 := Aside0.mk hga
        have HA2 : Aside0 (∀ o_, (W0.alloc o_).drew.cell? ⟨wr.heap.size, 0, none⟩ = some (.int .u8 o)) := ⟨hga⟩
        have hne : W0.heap.size ≠ wr.heap.size := by have := HZ.out; omega
        clear hga k0
        go_region_held (fun w' => w'.cell? ⟨wr.heap.size, 0, none⟩ = some (.int .u8 o)) (first | exact hgd | exact HA1.out _ | exact HA2.out _ | (simp only [World.cell?_setCell_far, ne_eq, hne, not_false_eq_true]; first | exact HA1.out _ | exact HA2.out _)) (first | (with_reducible refine (bits_7_5 _ _).mono ?_; rintro e w' ⟨rfl, rfl⟩) | (with_reducible refine (bits_15_5 _ _).mono ?_; rintro e w' ⟨rfl, rfl⟩) | (with_reducible refine (bits_20_5 _ _).mono ?_; rintro e w' ⟨rfl, rfl⟩))
        all_goals (go_wp2_with fail; go_meet; exact ⟨rfl, rfl, rfl⟩)
      case rest =>
        obtain ⟨rfl, rfl, rfl⟩ := hcut
        generalize IntKind.u8.wrap (bt wv 7 5) = q1 at *
        generalize IntKind.u8.wrap (bt wv 15 5) = q2 at *
        generalize IntKind.u8.wrap (bt wv 20 5) = q3 at *
        have BY := Aside0.mk (blk_drew (blk_new W0 (.cells #[.int .u8 o, .int .u8 q1, .int .u8 q2, .int .u8 q3, .int .i32 0] 63 (0, 0))))
        have hbx := below_drew (below_1 W0 (.cells #[.int .u8 o, .int .u8 q1, .int .u8 q2, .int .u8 q3, .int .i32 0] 63 (0, 0)))
        replace BX := Aside0.mk (blk_below BX.out hbx)
        have HB2 := Aside0.mk (below_then HB1.out HB1.out.size hbx)
        have BR2 := Aside0.mk (blk_below (blk_below BR.out HB1.out) hbx)
        clear hbx
        generalize hW : (W0.alloc (.cells #[.int .u8 o, .int .u8 q1, .int .u8 q2, .int .u8 q3, .int .i32 0] 63 (0, 0))).drew = W1 at *
        clear hW
        generalize W0.heap.size = nb at *
        have k0 := blk_cell BX.out 0
        have k2 := blk_cell BX.out 2
        have y0 := blk_cell BY.out 0
        have y1 := blk_cell BY.out 1
        have y2 := blk_cell BY.out 2
        have y3 := blk_cell BY.out 3
        have y4 := blk_cell BY.out 4
        have g0 := blk_frozen BY.out 0
        have g1 := blk_frozen BY.out 1
        have g2 := blk_frozen BY.out 2
        have g3 := blk_frozen BY.out 3
        have g4 := blk_frozen BY.out 4
        simp only [List.getElem?_toArray, List.getElem?_cons_zero, List.getElem?_cons_succ] at k0 k2 y0 y1 y2 y3 y4
        have hnb : wr.heap.size ≤ nb := by have := HZ.out; omega
        have hnr : w.heap.size ≠ nb := by have h7 := HB.out.size; have h8 := HZ.out; omega
        go_upto_block 2 with fail
        go_cut [7] (fun v7 wc => v7 = .pointer (some ⟨nb, 0, none⟩) ∧ Aside0 (wc.heap[nb]? = some (.cells #[.int .u8 (decOf o fm wv q1 q2 q3).f0, .int .u8 (decOf o fm wv q1 q2 q3).f1, .int .u8 (decOf o fm wv q1 q2 q3).f2, .int .u8 (decOf o fm wv q1 q2 q3).f3, .int .i32 (decOf o fm wv q1 q2 q3).f4] 63 (0, 0))) ∧ Aside0 (Below wr.heap.size wr wc) ∧ Aside0 (wc.heap[w.heap.size]? = some (.cells #[.int .u8 0, .int .u8 0, .int .u8 0, .int .u8 0, .int .i32 0] 63 (0, 0))))
        case first =>
          rcases hfm with rfl | rfl | rfl | rfl | rfl | rfl | rfl | rfl | rfl | rfl | rfl
          · go_wp2_with (first | (with_reducible refine (bits_31_1 _ _).mono ?_; rintro e w' ⟨rfl, rfl⟩) | (with_reducible refine (bits_12_8 _ _).mono ?_; rintro e w' ⟨rfl, rfl⟩) | (with_reducible refine (bits_20_1 _ _).mono ?_; rintro e w' ⟨rfl, rfl⟩) | (with_reducible refine (bits_21_10 _ _).mono ?_; rintro e w' ⟨rfl, rfl⟩) | (with_reducible refine (bits_20_12 _ _).mono ?_; rintro e w' ⟨rfl, rfl⟩) | (with_reducible refine (bits_20_5 _ _).mono ?_; rintro e w' ⟨rfl, rfl⟩) | (with_reducible refine (bits_25_7 _ _).mono ?_; rintro e w' ⟨rfl, rfl⟩) | (with_reducible refine (bits_7_5 _ _).mono ?_; rintro e w' ⟨rfl, rfl⟩) | (with_reducible refine (bits_7_1 _ _).mono ?_; rintro e w' ⟨rfl, rfl⟩) | (with_reducible refine (bits_25_6 _ _).mono ?_; rintro e w' ⟨rfl, rfl⟩) | (with_reducible refine (bits_8_4 _ _).mono ?_; rintro e w' ⟨rfl, rfl⟩) | (with_reducible refine (signed_21 _ _).mono ?_; rintro e w' ⟨rfl, rfl⟩) | (with_reducible refine (signed_12 _ _).mono ?_; rintro e w' ⟨rfl, rfl⟩) | (with_reducible refine (signed_13 _ _).mono ?_; rintro e w' ⟨rfl, rfl⟩))
            go_meet
            exact ⟨rfl, ⟨(blk_put (blk_put (blk_put BY.out 2 (.int .u8 (0)) (cs' := #[.int .u8 (o), .int .u8 (q1), .int .u8 (0), .int .u8 (q3), .int .i32 (0)]) rfl) 3 (.int .u8 (0)) (cs' := #[.int .u8 (o), .int .u8 (q1), .int .u8 (0), .int .u8 (0), .int .i32 (0)]) rfl) 4 (.int .i32 (wrap32 (Go.bits .andNot .u32 wv 4095))) (cs' := #[.int .u8 (o), .int .u8 (q1), .int .u8 (0), .int .u8 (0), .int .i32 (wrap32 (Go.bits .andNot .u32 wv 4095))]) rfl)⟩, ⟨(below_set (below_set (below_set HB2.out (g := nb) (j := 2) (v := (.int .u8 (0))) hnb) (g := nb) (j := 3) (v := (.int .u8 (0))) hnb) (g := nb) (j := 4) (v := (.int .i32 (wrap32 (Go.bits .andNot .u32 wv 4095)))) hnb)⟩, ⟨(blk_far (blk_far (blk_far BR2.out (p := ⟨nb, 2, none⟩) hnr (.int .u8 (0))) (p := ⟨nb, 3, none⟩) hnr (.int .u8 (0))) (p := ⟨nb, 4, none⟩) hnr (.int .i32 (wrap32 (Go.bits .andNot .u32 wv 4095))))⟩⟩
          · go_wp2_with (first | (with_reducible refine (bits_31_1 _ _).mono ?_; rintro e w' ⟨rfl, rfl⟩) | (with_reducible refine (bits_12_8 _ _).mono ?_; rintro e w' ⟨rfl, rfl⟩) | (with_reducible refine (bits_20_1 _ _).mono ?_; rintro e w' ⟨rfl, rfl⟩) | (with_reducible refine (bits_21_10 _ _).mono ?_; rintro e w' ⟨rfl, rfl⟩) | (with_reducible refine (bits_20_12 _ _).mono ?_; rintro e w' ⟨rfl, rfl⟩) | (with_reducible refine (bits_20_5 _ _).mono ?_; rintro e w' ⟨rfl, rfl⟩) | (with_reducible refine (bits_25_7 _ _).mono ?_; rintro e w' ⟨rfl, rfl⟩) | (with_reducible refine (bits_7_5 _ _).mono ?_; rintro e w' ⟨rfl, rfl⟩) | (with_reducible refine (bits_7_1 _ _).mono ?_; rintro e w' ⟨rfl, rfl⟩) | (with_reducible refine (bits_25_6 _ _).mono ?_; rintro e w' ⟨rfl, rfl⟩) | (with_reducible refine (bits_8_4 _ _).mono ?_; rintro e w' ⟨rfl, rfl⟩) | (with_reducible refine (signed_21 _ _).mono ?_; rintro e w' ⟨rfl, rfl⟩) | (with_reducible refine (signed_12 _ _).mono ?_; rintro e w' ⟨rfl, rfl⟩) | (with_reducible refine (signed_13 _ _).mono ?_; rintro e w' ⟨rfl, rfl⟩))
            go_meet
            exact ⟨rfl, ⟨(blk_put (blk_put (blk_put BY.out 2 (.int .u8 (0)) (cs' := #[.int .u8 (o), .int .u8 (q1), .int .u8 (0), .int .u8 (q3), .int .i32 (0)]) rfl) 3 (.int .u8 (0)) (cs' := #[.int .u8 (o), .int .u8 (q1), .int .u8 (0), .int .u8 (0), .int .i32 (0)]) rfl) 4 (.int .i32 (sg (Go.bits .or .u32 (Go.bits .or .u32 (Go.bits .or .u32 (bt wv 31 1 * 1048576 % 4294967296) (bt wv 12 8 * 4096 % 4294967296)) (bt wv 20 1 * 2048 % 4294967296)) (bt wv 21 10 * 2 % 4294967296)) 21)) (cs' := #[.int .u8 (o), .int .u8 (q1), .int .u8 (0), .int .u8 (0), .int .i32 (sg (Go.bits .or .u32 (Go.bits .or .u32 (Go.bits .or .u32 (bt wv 31 1 * 1048576 % 4294967296) (bt wv 12 8 * 4096 % 4294967296)) (bt wv 20 1 * 2048 % 4294967296)) (bt wv 21 10 * 2 % 4294967296)) 21)]) rfl)⟩, ⟨(below_set (below_set (below_set HB2.out (g := nb) (j := 2) (v := (.int .u8 (0))) hnb) (g := nb) (j := 3) (v := (.int .u8 (0))) hnb) (g := nb) (j := 4) (v := (.int .i32 (sg (Go.bits .or .u32 (Go.bits .or .u32 (Go.bits .or .u32 (bt wv 31 1 * 1048576 % 4294967296) (bt wv 12 8 * 4096 % 4294967296)) (bt wv 20 1 * 2048 % 4294967296)) (bt wv 21 10 * 2 % 4294967296)) 21))) hnb)⟩, ⟨(blk_far (blk_far (blk_far BR2.out (p := ⟨nb, 2, none⟩) hnr (.int .u8 (0))) (p := ⟨nb, 3, none⟩) hnr (.int .u8 (0))) (p := ⟨nb, 4, none⟩) hnr (.int .i32 (sg (Go.bits .or .u32 (Go.bits .or .u32 (Go.bits .or .u32 (bt wv 31 1 * 1048576 % 4294967296) (bt wv 12 8 * 4096 % 4294967296)) (bt wv 20 1 * 2048 % 4294967296)) (bt wv 21 10 * 2 % 4294967296)) 21)))⟩⟩
          · go_wp2_with (first | (with_reducible refine (bits_31_1 _ _).mono ?_; rintro e w' ⟨rfl, rfl⟩) | (with_reducible refine (bits_12_8 _ _).mono ?_; rintro e w' ⟨rfl, rfl⟩) | (with_reducible refine (bits_20_1 _ _).mono ?_; rintro e w' ⟨rfl, rfl⟩) | (with_reducible refine (bits_21_10 _ _).mono ?_; rintro e w' ⟨rfl, rfl⟩) | (with_reducible refine (bits_20_12 _ _).mono ?_; rintro e w' ⟨rfl, rfl⟩) | (with_reducible refine (bits_20_5 _ _).mono ?_; rintro e w' ⟨rfl, rfl⟩) | (with_reducible refine (bits_25_7 _ _).mono ?_; rintro e w' ⟨rfl, rfl⟩) | (with_reducible refine (bits_7_5 _ _).mono ?_; rintro e w' ⟨rfl, rfl⟩) | (with_reducible refine (bits_7_1 _ _).mono ?_; rintro e w' ⟨rfl, rfl⟩) | (with_reducible refine (bits_25_6 _ _).mono ?_; rintro e w' ⟨rfl, rfl⟩) | (with_reducible refine (bits_8_4 _ _).mono ?_; rintro e w' ⟨rfl, rfl⟩) | (with_reducible refine (signed_21 _ _).mono ?_; rintro e w' ⟨rfl, rfl⟩) | (with_reducible refine (signed_12 _ _).mono ?_; rintro e w' ⟨rfl, rfl⟩) | (with_reducible refine (signed_13 _ _).mono ?_; rintro e w' ⟨rfl, rfl⟩))
            go_meet
            exact ⟨rfl, ⟨(blk_put (blk_put BY.out 3 (.int .u8 (0)) (cs' := #[.int .u8 (o), .int .u8 (q1), .int .u8 (q2), .int .u8 (0), .int .i32 (0)]) rfl) 4 (.int .i32 (sg (bt wv 20 12) 12)) (cs' := #[.int .u8 (o), .int .u8 (q1), .int .u8 (q2), .int .u8 (0), .int .i32 (sg (bt wv 20 12) 12)]) rfl)⟩, ⟨(below_set (below_set HB2.out (g := nb) (j := 3) (v := (.int .u8 (0))) hnb) (g := nb) (j := 4) (v := (.int .i32 (sg (bt wv 20 12) 12))) hnb)⟩, ⟨(blk_far (blk_far BR2.out (p := ⟨nb, 3, none⟩) hnr (.int .u8 (0))) (p := ⟨nb, 4, none⟩) hnr (.int .i32 (sg (bt wv 20 12) 12)))⟩⟩
          · go_wp2_with (first | (with_reducible refine (bits_31_1 _ _).mono ?_; rintro e w' ⟨rfl, rfl⟩) | (with_reducible refine (bits_12_8 _ _).mono ?_; rintro e w' ⟨rfl, rfl⟩) | (with_reducible refine (bits_20_1 _ _).mono ?_; rintro e w' ⟨rfl, rfl⟩) | (with_reducible refine (bits_21_10 _ _).mono ?_; rintro e w' ⟨rfl, rfl⟩) | (with_reducible refine (bits_20_12 _ _).mono ?_; rintro e w' ⟨rfl, rfl⟩) | (with_reducible refine (bits_20_5 _ _).mono ?_; rintro e w' ⟨rfl, rfl⟩) | (with_reducible refine (bits_25_7 _ _).mono ?_; rintro e w' ⟨rfl, rfl⟩) | (with_reducible refine (bits_7_5 _ _).mono ?_; rintro e w' ⟨rfl, rfl⟩) | (with_reducible refine (bits_7_1 _ _).mono ?_; rintro e w' ⟨rfl, rfl⟩) | (with_reducible refine (bits_25_6 _ _).mono ?_; rintro e w' ⟨rfl, rfl⟩) | (with_reducible refine (bits_8_4 _ _).mono ?_; rintro e w' ⟨rfl, rfl⟩) | (with_reducible refine (signed_21 _ _).mono ?_; rintro e w' ⟨rfl, rfl⟩) | (with_reducible refine (signed_12 _ _).mono ?_; rintro e w' ⟨rfl, rfl⟩) | (with_reducible refine (signed_13 _ _).mono ?_; rintro e w' ⟨rfl, rfl⟩))
            go_meet
            exact ⟨rfl, ⟨(blk_put (blk_put BY.out 3 (.int .u8 (0)) (cs' := #[.int .u8 (o), .int .u8 (q1), .int .u8 (q2), .int .u8 (0), .int .i32 (0)]) rfl) 4 (.int .i32 (wrap32 (bt wv 20 12))) (cs' := #[.int .u8 (o), .int .u8 (q1), .int .u8 (q2), .int .u8 (0), .int .i32 (wrap32 (bt wv 20 12))]) rfl)⟩, ⟨(below_set (below_set HB2.out (g := nb) (j := 3) (v := (.int .u8 (0))) hnb) (g := nb) (j := 4) (v := (.int .i32 (wrap32 (bt wv 20 12)))) hnb)⟩, ⟨(blk_far (blk_far BR2.out (p := ⟨nb, 3, none⟩) hnr (.int .u8 (0))) (p := ⟨nb, 4, none⟩) hnr (.int .i32 (wrap32 (bt wv 20 12))))⟩⟩
          · go_wp2_with (first | (with_reducible refine (bits_31_1 _ _).mono ?_; rintro e w' ⟨rfl, rfl⟩) | (with_reducible refine (bits_12_8 _ _).mono ?_; rintro e w' ⟨rfl, rfl⟩) | (with_reducible refine (bits_20_1 _ _).mono ?_; rintro e w' ⟨rfl, rfl⟩) | (with_reducible refine (bits_21_10 _ _).mono ?_; rintro e w' ⟨rfl, rfl⟩) | (with_reducible refine (bits_20_12 _ _).mono ?_; rintro e w' ⟨rfl, rfl⟩) | (with_reducible refine (bits_20_5 _ _).mono ?_; rintro e w' ⟨rfl, rfl⟩) | (with_reducible refine (bits_25_7 _ _).mono ?_; rintro e w' ⟨rfl, rfl⟩) | (with_reducible refine (bits_7_5 _ _).mono ?_; rintro e w' ⟨rfl, rfl⟩) | (with_reducible refine (bits_7_1 _ _).mono ?_; rintro e w' ⟨rfl, rfl⟩) | (with_reducible refine (bits_25_6 _ _).mono ?_; rintro e w' ⟨rfl, rfl⟩) | (with_reducible refine (bits_8_4 _ _).mono ?_; rintro e w' ⟨rfl, rfl⟩) | (with_reducible refine (signed_21 _ _).mono ?_; rintro e w' ⟨rfl, rfl⟩) | (with_reducible refine (signed_12 _ _).mono ?_; rintro e w' ⟨rfl, rfl⟩) | (with_reducible refine (signed_13 _ _).mono ?_; rintro e w' ⟨rfl, rfl⟩))
            go_meet
            exact ⟨rfl, ⟨(blk_put (blk_put BY.out 3 (.int .u8 (0)) (cs' := #[.int .u8 (o), .int .u8 (q1), .int .u8 (q2), .int .u8 (0), .int .i32 (0)]) rfl) 4 (.int .i32 (wrap32 (bt wv 20 5))) (cs' := #[.int .u8 (o), .int .u8 (q1), .int .u8 (q2), .int .u8 (0), .int .i32 (wrap32 (bt wv 20 5))]) rfl)⟩, ⟨(below_set (below_set HB2.out (g := nb) (j := 3) (v := (.int .u8 (0))) hnb) (g := nb) (j := 4) (v := (.int .i32 (wrap32 (bt wv 20 5)))) hnb)⟩, ⟨(blk_far (blk_far BR2.out (p := ⟨nb, 3, none⟩) hnr (.int .u8 (0))) (p := ⟨nb, 4, none⟩) hnr (.int .i32 (wrap32 (bt wv 20 5))))⟩⟩
          · go_wp2_with (first | (with_reducible refine (bits_31_1 _ _).mono ?_; rintro e w' ⟨rfl, rfl⟩) | (with_reducible refine (bits_12_8 _ _).mono ?_; rintro e w' ⟨rfl, rfl⟩) | (with_reducible refine (bits_20_1 _ _).mono ?_; rintro e w' ⟨rfl, rfl⟩) | (with_reducible refine (bits_21_10 _ _).mono ?_; rintro e w' ⟨rfl, rfl⟩) | (with_reducible refine (bits_20_12 _ _).mono ?_; rintro e w' ⟨rfl, rfl⟩) | (with_reducible refine (bits_20_5 _ _).mono ?_; rintro e w' ⟨rfl, rfl⟩) | (with_reducible refine (bits_25_7 _ _).mono ?_; rintro e w' ⟨rfl, rfl⟩) | (with_reducible refine (bits_7_5 _ _).mono ?_; rintro e w' ⟨rfl, rfl⟩) | (with_reducible refine (bits_7_1 _ _).mono ?_; rintro e w' ⟨rfl, rfl⟩) | (with_reducible refine (bits_25_6 _ _).mono ?_; rintro e w' ⟨rfl, rfl⟩) | (with_reducible refine (bits_8_4 _ _).mono ?_; rintro e w' ⟨rfl, rfl⟩) | (with_reducible refine (signed_21 _ _).mono ?_; rintro e w' ⟨rfl, rfl⟩) | (with_reducible refine (signed_12 _ _).mono ?_; rintro e w' ⟨rfl, rfl⟩) | (with_reducible refine (signed_13 _ _).mono ?_; rintro e w' ⟨rfl, rfl⟩))
            go_meet
            exact ⟨rfl, ⟨(blk_put (blk_put BY.out 1 (.int .u8 (0)) (cs' := #[.int .u8 (o), .int .u8 (0), .int .u8 (q2), .int .u8 (q3), .int .i32 (0)]) rfl) 4 (.int .i32 (sg (Go.bits .or .u32 (bt wv 25 7 * 32 % 4294967296) (bt wv 7 5)) 12)) (cs' := #[.int .u8 (o), .int .u8 (0), .int .u8 (q2), .int .u8 (q3), .int .i32 (sg (Go.bits .or .u32 (bt wv 25 7 * 32 % 4294967296) (bt wv 7 5)) 12)]) rfl)⟩, ⟨(below_set (below_set HB2.out (g := nb) (j := 1) (v := (.int .u8 (0))) hnb) (g := nb) (j := 4) (v := (.int .i32 (sg (Go.bits .or .u32 (bt wv 25 7 * 32 % 4294967296) (bt wv 7 5)) 12))) hnb)⟩, ⟨(blk_far (blk_far BR2.out (p := ⟨nb, 1, none⟩) hnr (.int .u8 (0))) (p := ⟨nb, 4, none⟩) hnr (.int .i32 (sg (Go.bits .or .u32 (bt wv 25 7 * 32 % 4294967296) (bt wv 7 5)) 12)))⟩⟩
          · go_wp2_with (first | (with_reducible refine (bits_31_1 _ _).mono ?_; rintro e w' ⟨rfl, rfl⟩) | (with_reducible refine (bits_12_8 _ _).mono ?_; rintro e w' ⟨rfl, rfl⟩) | (with_reducible refine (bits_20_1 _ _).mono ?_; rintro e w' ⟨rfl, rfl⟩) | (with_reducible refine (bits_21_10 _ _).mono ?_; rintro e w' ⟨rfl, rfl⟩) | (with_reducible refine (bits_20_12 _ _).mono ?_; rintro e w' ⟨rfl, rfl⟩) | (with_reducible refine (bits_20_5 _ _).mono ?_; rintro e w' ⟨rfl, rfl⟩) | (with_reducible refine (bits_25_7 _ _).mono ?_; rintro e w' ⟨rfl, rfl⟩) | (with_reducible refine (bits_7_5 _ _).mono ?_; rintro e w' ⟨rfl, rfl⟩) | (with_reducible refine (bits_7_1 _ _).mono ?_; rintro e w' ⟨rfl, rfl⟩) | (with_reducible refine (bits_25_6 _ _).mono ?_; rintro e w' ⟨rfl, rfl⟩) | (with_reducible refine (bits_8_4 _ _).mono ?_; rintro e w' ⟨rfl, rfl⟩) | (with_reducible refine (signed_21 _ _).mono ?_; rintro e w' ⟨rfl, rfl⟩) | (with_reducible refine (signed_12 _ _).mono ?_; rintro e w' ⟨rfl, rfl⟩) | (with_reducible refine (signed_13 _ _).mono ?_; rintro e w' ⟨rfl, rfl⟩))
            go_meet
            exact ⟨rfl, ⟨(blk_put (blk_put BY.out 1 (.int .u8 (0)) (cs' := #[.int .u8 (o), .int .u8 (0), .int .u8 (q2), .int .u8 (q3), .int .i32 (0)]) rfl) 4 (.int .i32 (sg (Go.bits .or .u32 (Go.bits .or .u32 (Go.bits .or .u32 (bt wv 31 1 * 4096 % 4294967296) (bt wv 7 1 * 2048 % 4294967296)) (bt wv 25 6 * 32 % 4294967296)) (bt wv 8 4 * 2 % 4294967296)) 13)) (cs' := #[.int .u8 (o), .int .u8 (0), .int .u8 (q2), .int .u8 (q3), .int .i32 (sg (Go.bits .or .u32 (Go.bits .or .u32 (Go.bits .or .u32 (bt wv 31 1 * 4096 % 4294967296) (bt wv 7 1 * 2048 % 4294967296)) (bt wv 25 6 * 32 % 4294967296)) (bt wv 8 4 * 2 % 4294967296)) 13)]) rfl)⟩, ⟨(below_set (below_set HB2.out (g := nb) (j := 1) (v := (.int .u8 (0))) hnb) (g := nb) (j := 4) (v := (.int .i32 (sg (Go.bits .or .u32 (Go.bits .or .u32 (Go.bits .or .u32 (bt wv 31 1 * 4096 % 4294967296) (bt wv 7 1 * 2048 % 4294967296)) (bt wv 25 6 * 32 % 4294967296)) (bt wv 8 4 * 2 % 4294967296)) 13))) hnb)⟩, ⟨(blk_far (blk_far BR2.out (p := ⟨nb, 1, none⟩) hnr (.int .u8 (0))) (p := ⟨nb, 4, none⟩) hnr (.int .i32 (sg (Go.bits .or .u32 (Go.bits .or .u32 (Go.bits .or .u32 (bt wv 31 1 * 4096 % 4294967296) (bt wv 7 1 * 2048 % 4294967296)) (bt wv 25 6 * 32 % 4294967296)) (bt wv 8 4 * 2 % 4294967296)) 13)))⟩⟩
          · go_wp2_with (first | (with_reducible refine (bits_31_1 _ _).mono ?_; rintro e w' ⟨rfl, rfl⟩) | (with_reducible refine (bits_12_8 _ _).mono ?_; rintro e w' ⟨rfl, rfl⟩) | (with_reducible refine (bits_20_1 _ _).mono ?_; rintro e w' ⟨rfl, rfl⟩) | (with_reducible refine (bits_21_10 _ _).mono ?_; rintro e w' ⟨rfl, rfl⟩) | (with_reducible refine (bits_20_12 _ _).mono ?_; rintro e w' ⟨rfl, rfl⟩) | (with_reducible refine (bits_20_5 _ _).mono ?_; rintro e w' ⟨rfl, rfl⟩) | (with_reducible refine (bits_25_7 _ _).mono ?_; rintro e w' ⟨rfl, rfl⟩) | (with_reducible refine (bits_7_5 _ _).mono ?_; rintro e w' ⟨rfl, rfl⟩) | (with_reducible refine (bits_7_1 _ _).mono ?_; rintro e w' ⟨rfl, rfl⟩) | (with_reducible refine (bits_25_6 _ _).mono ?_; rintro e w' ⟨rfl, rfl⟩) | (with_reducible refine (bits_8_4 _ _).mono ?_; rintro e w' ⟨rfl, rfl⟩) | (with_reducible refine (signed_21 _ _).mono ?_; rintro e w' ⟨rfl, rfl⟩) | (with_reducible refine (signed_12 _ _).mono ?_; rintro e w' ⟨rfl, rfl⟩) | (with_reducible refine (signed_13 _ _).mono ?_; rintro e w' ⟨rfl, rfl⟩))
            go_meet
            exact ⟨rfl, ⟨BY.out⟩, ⟨HB2.out⟩, ⟨BR2.out⟩⟩
          · go_wp2_with (first | (with_reducible refine (bits_31_1 _ _).mono ?_; rintro e w' ⟨rfl, rfl⟩) | (with_reducible refine (bits_12_8 _ _).mono ?_; rintro e w' ⟨rfl, rfl⟩) | (with_reducible refine (bits_20_1 _ _).mono ?_; rintro e w' ⟨rfl, rfl⟩) | (with_reducible refine (bits_21_10 _ _).mono ?_; rintro e w' ⟨rfl, rfl⟩) | (with_reducible refine (bits_20_12 _ _).mono ?_; rintro e w' ⟨rfl, rfl⟩) | (with_reducible refine (bits_20_5 _ _).mono ?_; rintro e w' ⟨rfl, rfl⟩) | (with_reducible refine (bits_25_7 _ _).mono ?_; rintro e w' ⟨rfl, rfl⟩) | (with_reducible refine (bits_7_5 _ _).mono ?_; rintro e w' ⟨rfl, rfl⟩) | (with_reducible refine (bits_7_1 _ _).mono ?_; rintro e w' ⟨rfl, rfl⟩) | (with_reducible refine (bits_25_6 _ _).mono ?_; rintro e w' ⟨rfl, rfl⟩) | (with_reducible refine (bits_8_4 _ _).mono ?_; rintro e w' ⟨rfl, rfl⟩) | (with_reducible refine (signed_21 _ _).mono ?_; rintro e w' ⟨rfl, rfl⟩) | (with_reducible refine (signed_12 _ _).mono ?_; rintro e w' ⟨rfl, rfl⟩) | (with_reducible refine (signed_13 _ _).mono ?_; rintro e w' ⟨rfl, rfl⟩))
            go_meet
            exact ⟨rfl, ⟨(blk_put BY.out 3 (.int .u8 (0)) (cs' := #[.int .u8 (o), .int .u8 (q1), .int .u8 (q2), .int .u8 (0), .int .i32 (0)]) rfl)⟩, ⟨(below_set HB2.out (g := nb) (j := 3) (v := (.int .u8 (0))) hnb)⟩, ⟨(blk_far BR2.out (p := ⟨nb, 3, none⟩) hnr (.int .u8 (0)))⟩⟩
          · go_wp2_with (first | (with_reducible refine (bits_31_1 _ _).mono ?_; rintro e w' ⟨rfl, rfl⟩) | (with_reducible refine (bits_12_8 _ _).mono ?_; rintro e w' ⟨rfl, rfl⟩) | (with_reducible refine (bits_20_1 _ _).mono ?_; rintro e w' ⟨rfl, rfl⟩) | (with_reducible refine (bits_21_10 _ _).mono ?_; rintro e w' ⟨rfl, rfl⟩) | (with_reducible refine (bits_20_12 _ _).mono ?_; rintro e w' ⟨rfl, rfl⟩) | (with_reducible refine (bits_20_5 _ _).mono ?_; rintro e w' ⟨rfl, rfl⟩) | (with_reducible refine (bits_25_7 _ _).mono ?_; rintro e w' ⟨rfl, rfl⟩) | (with_reducible refine (bits_7_5 _ _).mono ?_; rintro e w' ⟨rfl, rfl⟩) | (with_reducible refine (bits_7_1 _ _).mono ?_; rintro e w' ⟨rfl, rfl⟩) | (with_reducible refine (bits_25_6 _ _).mono ?_; rintro e w' ⟨rfl, rfl⟩) | (with_reducible refine (bits_8_4 _ _).mono ?_; rintro e w' ⟨rfl, rfl⟩) | (with_reducible refine (signed_21 _ _).mono ?_; rintro e w' ⟨rfl, rfl⟩) | (with_reducible refine (signed_12 _ _).mono ?_; rintro e w' ⟨rfl, rfl⟩) | (with_reducible refine (signed_13 _ _).mono ?_; rintro e w' ⟨rfl, rfl⟩))
            go_meet
            exact ⟨rfl, ⟨(blk_put (blk_put BY.out 3 (.int .u8 (0)) (cs' := #[.int .u8 (o), .int .u8 (q1), .int .u8 (q2), .int .u8 (0), .int .i32 (0)]) rfl) 4 (.int .i32 (wrap32 (bt wv 20 5))) (cs' := #[.int .u8 (o), .int .u8 (q1), .int .u8 (q2), .int .u8 (0), .int .i32 (wrap32 (bt wv 20 5))]) rfl)⟩, ⟨(below_set (below_set HB2.out (g := nb) (j := 3) (v := (.int .u8 (0))) hnb) (g := nb) (j := 4) (v := (.int .i32 (wrap32 (bt wv 20 5)))) hnb)⟩, ⟨(blk_far (blk_far BR2.out (p := ⟨nb, 3, none⟩) hnr (.int .u8 (0))) (p := ⟨nb, 4, none⟩) hnr (.int .i32 (wrap32 (bt wv 20 5))))⟩⟩
          · go_wp2_with (first | (with_reducible refine (bits_31_1 _ _).mono ?_; rintro e w' ⟨rfl, rfl⟩) | (with_reducible refine (bits_12_8 _ _).mono ?_; rintro e w' ⟨rfl, rfl⟩) | (with_reducible refine (bits_20_1 _ _).mono ?_; rintro e w' ⟨rfl, rfl⟩) | (with_reducible refine (bits_21_10 _ _).mono ?_; rintro e w' ⟨rfl, rfl⟩) | (with_reducible refine (bits_20_12 _ _).mono ?_; rintro e w' ⟨rfl, rfl⟩) | (with_reducible refine (bits_20_5 _ _).mono ?_; rintro e w' ⟨rfl, rfl⟩) | (with_reducible refine (bits_25_7 _ _).mono ?_; rintro e w' ⟨rfl, rfl⟩) | (with_reducible refine (bits_7_5 _ _).mono ?_; rintro e w' ⟨rfl, rfl⟩) | (with_reducible refine (bits_7_1 _ _).mono ?_; rintro e w' ⟨rfl, rfl⟩) | (with_reducible refine (bits_25_6 _ _).mono ?_; rintro e w' ⟨rfl, rfl⟩) | (with_reducible refine (bits_8_4 _ _).mono ?_; rintro e w' ⟨rfl, rfl⟩) | (with_reducible refine (signed_21 _ _).mono ?_; rintro e w' ⟨rfl, rfl⟩) | (with_reducible refine (signed_12 _ _).mono ?_; rintro e w' ⟨rfl, rfl⟩) | (with_reducible refine (signed_13 _ _).mono ?_; rintro e w' ⟨rfl, rfl⟩))
            go_meet
            exact ⟨rfl, ⟨(blk_put (blk_put (blk_put (blk_put (blk_put BY.out 0 (.int .u8 (o)) (cs' := #[.int .u8 (o), .int .u8 (q1), .int .u8 (q2), .int .u8 (q3), .int .i32 (0)]) rfl) 1 (.int .u8 (0)) (cs' := #[.int .u8 (o), .int .u8 (0), .int .u8 (q2), .int .u8 (q3), .int .i32 (0)]) rfl) 2 (.int .u8 (0)) (cs' := #[.int .u8 (o), .int .u8 (0), .int .u8 (0), .int .u8 (q3), .int .i32 (0)]) rfl) 3 (.int .u8 (0)) (cs' := #[.int .u8 (o), .int .u8 (0), .int .u8 (0), .int .u8 (0), .int .i32 (0)]) rfl) 4 (.int .i32 (0)) (cs' := #[.int .u8 (o), .int .u8 (0), .int .u8 (0), .int .u8 (0), .int .i32 (0)]) rfl)⟩, ⟨(below_set (below_set (below_set (below_set (below_set HB2.out (g := nb) (j := 0) (v := (.int .u8 (o))) hnb) (g := nb) (j := 1) (v := (.int .u8 (0))) hnb) (g := nb) (j := 2) (v := (.int .u8 (0))) hnb) (g := nb) (j := 3) (v := (.int .u8 (0))) hnb) (g := nb) (j := 4) (v := (.int .i32 (0))) hnb)⟩, ⟨(blk_far (blk_far (blk_far (blk_far (blk_far BR2.out (p := ⟨nb, 0, none⟩) hnr (.int .u8 (o))) (p := ⟨nb, 1, none⟩) hnr (.int .u8 (0))) (p := ⟨nb, 2, none⟩) hnr (.int .u8 (0))) (p := ⟨nb, 3, none⟩) hnr (.int .u8 (0))) (p := ⟨nb, 4, none⟩) hnr (.int .i32 (0)))⟩⟩
        case rest =>
          obtain ⟨rfl, BF, HBx, BRx⟩ := hcut
          clear k0 k2 y0 y1 y2 y3 y4 g0 g1 g2 g3 g4 BX BY HB2 BR2
          have HP := Aside0.mk (putR_calls _ pv pe HP1.out)
          have HH := HP2
          clear HP1 HP2 hfm
          generalize decOf o fm wv q1 q2 q3 = X at *
          have m0 := blk_cell BF.out 0
          have m1 := blk_cell BF.out 1
          have m2 := blk_cell BF.out 2
          have m3 := blk_cell BF.out 3
          have m4 := blk_cell BF.out 4
          simp only [List.getElem?_toArray, List.getElem?_cons_zero, List.getElem?_cons_succ] at m0 m1 m2 m3 m4
          go_wp2_with fail
          refine (HP.out _).mono ?_
          rintro e y ⟨rfl, hb⟩
          replace BF := Aside0.mk (blk_below BF.out hb)
          have HBy := Aside0.mk (below_step HBx.out hb)
          have BRy := Aside0.mk (blk_below BRx.out hb)
          clear hb m0 m1 m2 m3 m4
          have HB3 := Aside0.mk (below_step HB.out HBy.out)
          have HT3 := Aside0.mk (HT.out.below HBy.out)
          rcases HH.out with ⟨rfl, hpq, hi⟩ | ⟨hno, hnx⟩
          · have hpq' := hpq.symm
            subst hpq'
            have HX := Aside0.mk hi
            have m0 := blk_cell BF.out 0
            have m1 := blk_cell BF.out 1
            have m2 := blk_cell BF.out 2
            have m3 := blk_cell BF.out 3
            have m4 := blk_cell BF.out 4
            have n0 := blk_cell BRy.out 0
            have n1 := blk_cell BRy.out 1
            have n2 := blk_cell BRy.out 2
            have n3 := blk_cell BRy.out 3
            have n4 := blk_cell BRy.out 4
            have p0 := blk_frozen BRy.out 0
            have p1 := blk_frozen BRy.out 1
            have p2 := blk_frozen BRy.out 2
            have p3 := blk_frozen BRy.out 3
            have p4 := blk_frozen BRy.out 4
            simp only [List.getElem?_toArray, List.getElem?_cons_zero, List.getElem?_cons_succ] at m0 m1 m2 m3 m4 n0 n1 n2 n3 n4
            clear hi HH HP
            go_wp2_with fail
            rw [HX.out]
            refine bodyPost_ret (results_ct rfl _ _ w.heap.size 63 #[.int .u8 (X.f0), .int .u8 (X.f1), .int .u8 (X.f2), .int .u8 (X.f3), .int .i32 (X.f4)] (0, 0) _ rfl ?hblk hu63 rfl (by kernel_rfl)) rfl ⟨rfl, ?hbl⟩
            case hblk => exact blk_put (blk_put (blk_put (blk_put (blk_put BRy.out 0 (.int .u8 (X.f0)) (cs' := #[.int .u8 (X.f0), .int .u8 0, .int .u8 0, .int .u8 0, .int .i32 0]) rfl) 1 (.int .u8 (X.f1)) (cs' := #[.int .u8 (X.f0), .int .u8 (X.f1), .int .u8 0, .int .u8 0, .int .i32 0]) rfl) 2 (.int .u8 (X.f2)) (cs' := #[.int .u8 (X.f0), .int .u8 (X.f1), .int .u8 (X.f2), .int .u8 0, .int .i32 0]) rfl) 3 (.int .u8 (X.f3)) (cs' := #[.int .u8 (X.f0), .int .u8 (X.f1), .int .u8 (X.f2), .int .u8 (X.f3), .int .i32 0]) rfl) 4 (.int .i32 (X.f4)) (cs' := #[.int .u8 (X.f0), .int .u8 (X.f1), .int .u8 (X.f2), .int .u8 (X.f3), .int .i32 (X.f4)]) rfl
            case hbl => exact below_set (below_set (below_set (below_set (below_set HB3.out (Nat.le_refl _)) (Nat.le_refl _)) (Nat.le_refl _)) (Nat.le_refl _)) (Nat.le_refl _)
          · have HN := Aside0.mk hnx
            by_cases hpe : pe = 0
            · subst hpe
              have hpv : (pv == wv) = false := by simpa using fun h_ => hno ⟨rfl, h_⟩
              have hpv' : decide (pv = wv) = false := by simpa using fun h_ => hno ⟨rfl, h_⟩
              clear hno hnx HH HP
              go_wp2_with fail
              go_roundg (67 - k)
              case measure => have := HQ.out; omega
              case rel => exact ⟨k + 1, by go_num, by have := HQ.out; omega, HN, HT3, BRy, HB3⟩
            · have hpe' : (pe == 0) = false := by simpa using hpe
              have hpe2 : decide (pe = 0) = false := by simpa using hpe
              clear hno hnx HH HP hpe
              go_wp2_with fail
              go_roundg (67 - k)
              case measure => have := HQ.out; omega
              case rel => exact ⟨k + 1, by go_num, by have := HQ.out; omega, HN, HT3, BRy, HB3⟩
    · have := get_end HI.out (by omega)
      exact this.elim
end Go.Proofs.YtfbmjfponkkaeaaGreatDoor.Num
