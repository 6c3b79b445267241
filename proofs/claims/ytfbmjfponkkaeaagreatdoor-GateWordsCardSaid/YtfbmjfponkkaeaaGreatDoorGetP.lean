import Derived.Test.YtfbmjfponkkaeaaGreatDoorPrB
import Derived.Test.YtfbmjfponkkaeaaGreatDoorWorks
import Derived.Deep.RegionHeld
import Derived.Deep.DeepCutAuto
namespace Go.Proofs.YtfbmjfponkkaeaaGreatDoor.Num
open Go.Proofs.YtfbmjfponkkaeaaGreatDoor.Fam Go.RowKit Go.Proofs.YtfbmjfponkkaeaaGreatDoorW.PrintWords Go.Proofs.YtfbmjfponkkaeaaGreatDoor.Pr Go.Maps
set_option linter.unusedVariables false
set_option linter.unusedSimpArgs false
noncomputable def bt (n a b : Int) : Int := valI (Run.deep Tryz.prog 3 67 #[.int .u32 n, .int .u64 a, .int .u64 b] default)
noncomputable def sg (n a : Int) : Int := valI (Run.deep Tryz.prog 3 68 #[.int .u32 n, .int .u64 a] default)
theorem bits_7_5 (n : Int) (w : World) : Calls Tryz.prog 67 #[.int .u32 n, .int .u64 7, .int .u64 5] w fun e w' => e = .returned (.int .u32 (bt n 7 5)) ∧ w = w' := Run.deep_ok Tryz.prog 3 _ _ _ _ w (by kernel_rfl : Run.deep Tryz.prog 3 67 #[.int .u32 n, .int .u64 7, .int .u64 5] w = some (.int .u32 (bt n 7 5), w)) _ ⟨rfl, rfl⟩
theorem bits_15_5 (n : Int) (w : World) : Calls Tryz.prog 67 #[.int .u32 n, .int .u64 15, .int .u64 5] w fun e w' => e = .returned (.int .u32 (bt n 15 5)) ∧ w = w' := Run.deep_ok Tryz.prog 3 _ _ _ _ w (by kernel_rfl : Run.deep Tryz.prog 3 67 #[.int .u32 n, .int .u64 15, .int .u64 5] w = some (.int .u32 (bt n 15 5), w)) _ ⟨rfl, rfl⟩
theorem bits_20_5 (n : Int) (w : World) : Calls Tryz.prog 67 #[.int .u32 n, .int .u64 20, .int .u64 5] w fun e w' => e = .returned (.int .u32 (bt n 20 5)) ∧ w = w' := Run.deep_ok Tryz.prog 3 _ _ _ _ w (by kernel_rfl : Run.deep Tryz.prog 3 67 #[.int .u32 n, .int .u64 20, .int .u64 5] w = some (.int .u32 (bt n 20 5), w)) _ ⟨rfl, rfl⟩
theorem bits_31_1 (n : Int) (w : World) : Calls Tryz.prog 67 #[.int .u32 n, .int .u64 31, .int .u64 1] w fun e w' => e = .returned (.int .u32 (bt n 31 1)) ∧ w = w' := Run.deep_ok Tryz.prog 3 _ _ _ _ w (by kernel_rfl : Run.deep Tryz.prog 3 67 #[.int .u32 n, .int .u64 31, .int .u64 1] w = some (.int .u32 (bt n 31 1), w)) _ ⟨rfl, rfl⟩
theorem bits_12_8 (n : Int) (w : World) : Calls Tryz.prog 67 #[.int .u32 n, .int .u64 12, .int .u64 8] w fun e w' => e = .returned (.int .u32 (bt n 12 8)) ∧ w = w' := Run.deep_ok Tryz.prog 3 _ _ _ _ w (by kernel_rfl : Run.deep Tryz.prog 3 67 #[.int .u32 n, .int .u64 12, .int .u64 8] w = some (.int .u32 (bt n 12 8), w)) _ ⟨rfl, rfl⟩
theorem bits_20_1 (n : Int) (w : World) : Calls Tryz.prog 67 #[.int .u32 n, .int .u64 20, .int .u64 1] w fun e w' => e = .returned (.int .u32 (bt n 20 1)) ∧ w = w' := Run.deep_ok Tryz.prog 3 _ _ _ _ w (by kernel_rfl : Run.deep Tryz.prog 3 67 #[.int .u32 n, .int .u64 20, .int .u64 1] w = some (.int .u32 (bt n 20 1), w)) _ ⟨rfl, rfl⟩
theorem bits_21_10 (n : Int) (w : World) : Calls Tryz.prog 67 #[.int .u32 n, .int .u64 21, .int .u64 10] w fun e w' => e = .returned (.int .u32 (bt n 21 10)) ∧ w = w' := Run.deep_ok Tryz.prog 3 _ _ _ _ w (by kernel_rfl : Run.deep Tryz.prog 3 67 #[.int .u32 n, .int .u64 21, .int .u64 10] w = some (.int .u32 (bt n 21 10), w)) _ ⟨rfl, rfl⟩
theorem bits_20_12 (n : Int) (w : World) : Calls Tryz.prog 67 #[.int .u32 n, .int .u64 20, .int .u64 12] w fun e w' => e = .returned (.int .u32 (bt n 20 12)) ∧ w = w' := Run.deep_ok Tryz.prog 3 _ _ _ _ w (by kernel_rfl : Run.deep Tryz.prog 3 67 #[.int .u32 n, .int .u64 20, .int .u64 12] w = some (.int .u32 (bt n 20 12), w)) _ ⟨rfl, rfl⟩
theorem bits_25_7 (n : Int) (w : World) : Calls Tryz.prog 67 #[.int .u32 n, .int .u64 25, .int .u64 7] w fun e w' => e = .returned (.int .u32 (bt n 25 7)) ∧ w = w' := Run.deep_ok Tryz.prog 3 _ _ _ _ w (by kernel_rfl : Run.deep Tryz.prog 3 67 #[.int .u32 n, .int .u64 25, .int .u64 7] w = some (.int .u32 (bt n 25 7), w)) _ ⟨rfl, rfl⟩
theorem bits_7_1 (n : Int) (w : World) : Calls Tryz.prog 67 #[.int .u32 n, .int .u64 7, .int .u64 1] w fun e w' => e = .returned (.int .u32 (bt n 7 1)) ∧ w = w' := Run.deep_ok Tryz.prog 3 _ _ _ _ w (by kernel_rfl : Run.deep Tryz.prog 3 67 #[.int .u32 n, .int .u64 7, .int .u64 1] w = some (.int .u32 (bt n 7 1), w)) _ ⟨rfl, rfl⟩
theorem bits_25_6 (n : Int) (w : World) : Calls Tryz.prog 67 #[.int .u32 n, .int .u64 25, .int .u64 6] w fun e w' => e = .returned (.int .u32 (bt n 25 6)) ∧ w = w' := Run.deep_ok Tryz.prog 3 _ _ _ _ w (by kernel_rfl : Run.deep Tryz.prog 3 67 #[.int .u32 n, .int .u64 25, .int .u64 6] w = some (.int .u32 (bt n 25 6), w)) _ ⟨rfl, rfl⟩
theorem bits_8_4 (n : Int) (w : World) : Calls Tryz.prog 67 #[.int .u32 n, .int .u64 8, .int .u64 4] w fun e w' => e = .returned (.int .u32 (bt n 8 4)) ∧ w = w' := Run.deep_ok Tryz.prog 3 _ _ _ _ w (by kernel_rfl : Run.deep Tryz.prog 3 67 #[.int .u32 n, .int .u64 8, .int .u64 4] w = some (.int .u32 (bt n 8 4), w)) _ ⟨rfl, rfl⟩
theorem signed_21 (n : Int) (w : World) : Calls Tryz.prog 68 #[.int .u32 n, .int .u64 21] w fun e w' => e = .returned (.int .i32 (sg n 21)) ∧ w = w' := Run.deep_ok Tryz.prog 3 _ _ _ _ w (by kernel_rfl : Run.deep Tryz.prog 3 68 #[.int .u32 n, .int .u64 21] w = some (.int .i32 (sg n 21), w)) _ ⟨rfl, rfl⟩
theorem signed_12 (n : Int) (w : World) : Calls Tryz.prog 68 #[.int .u32 n, .int .u64 12] w fun e w' => e = .returned (.int .i32 (sg n 12)) ∧ w = w' := Run.deep_ok Tryz.prog 3 _ _ _ _ w (by kernel_rfl : Run.deep Tryz.prog 3 68 #[.int .u32 n, .int .u64 12] w = some (.int .i32 (sg n 12), w)) _ ⟨rfl, rfl⟩
theorem signed_13 (n : Int) (w : World) : Calls Tryz.prog 68 #[.int .u32 n, .int .u64 13] w fun e w' => e = .returned (.int .i32 (sg n 13)) ∧ w = w' := Run.deep_ok Tryz.prog 3 _ _ _ _ w (by kernel_rfl : Run.deep Tryz.prog 3 68 #[.int .u32 n, .int .u64 13] w = some (.int .i32 (sg n 13), w)) _ ⟨rfl, rfl⟩
/-- The rows of the document's table lie in block g. -/
def TabAt (w : World) (g n : Nat) (xs : List S119) : Prop := ∀ k, k < n →
  w.cell? ⟨g, k * 6, none⟩ = some (.int .u8 (xs.getD k z119).f0) ∧ w.cell? ⟨g, k * 6 + 1, none⟩ = some (.string (xs.getD k z119).f1) ∧ w.cell? ⟨g, k * 6 + 2, none⟩ = some (.int .i64 (xs.getD k z119).f2) ∧
  w.cell? ⟨g, k * 6 + 3, none⟩ = some (.int .u32 (xs.getD k z119).f3) ∧ w.cell? ⟨g, k * 6 + 4, none⟩ = some (.int .u32 (xs.getD k z119).f4) ∧ w.cell? ⟨g, k * 6 + 5, none⟩ = some (.int .u32 (xs.getD k z119).f5)
theorem TabAt.of_C {w : World} {g n : Nat} {xs : List S119} (h : Kd.C k119 w (some ⟨g, 0, none⟩) n xs) : TabAt w g n xs := by
  intro k hk
  obtain ⟨ad, e, h0, h1, h2, h3, h4, h5⟩ := at_T119 h (k : Int) (by omega) (by omega)
  obtain rfl := Option.some.inj e
  simp only [rd_T119, Int.toNat_natCast, add_z, Nat.zero_add] at h0 h1 h2 h3 h4 h5
  exact ⟨h0, h1, h2, h3, h4, h5⟩
theorem TabAt.below {w w' : World} {g n : Nat} {xs : List S119} (h : TabAt w g n xs) (hb : Below w.heap.size w w') : TabAt w' g n xs := by
  have hc : ∀ (o : Nat) v, w.cell? ⟨g, o, none⟩ = some v → w'.cell? ⟨g, o, none⟩ = some v := fun o v hv => (hb.cell (p := ⟨g, o, none⟩) (World.block_lt_of_cell? w _ hv)).trans hv
  intro k hk
  obtain ⟨h0, h1, h2, h3, h4, h5⟩ := h k hk
  exact ⟨hc _ _ h0, hc _ _ h1, hc _ _ h2, hc _ _ h3, hc _ _ h4, hc _ _ h5⟩
/-- What a word holds, by a row's form. -/
noncomputable def decOf (o fm wv q1 q2 q3 : Int) : S63 := match fm.toNat with
  | 0 => ⟨o, q1, 0, 0, wrap32 (Go.bits .andNot .u32 wv 4095)⟩
  | 1 => ⟨o, q1, 0, 0, sg (Go.bits .or .u32 (Go.bits .or .u32 (Go.bits .or .u32 (bt wv 31 1 * 1048576 % 4294967296) (bt wv 12 8 * 4096 % 4294967296)) (bt wv 20 1 * 2048 % 4294967296)) (bt wv 21 10 * 2 % 4294967296)) 21⟩
  | 2 => ⟨o, q1, q2, 0, sg (bt wv 20 12) 12⟩
  | 3 => ⟨o, q1, q2, 0, wrap32 (bt wv 20 12)⟩
  | 4 => ⟨o, q1, q2, 0, wrap32 (bt wv 20 5)⟩
  | 5 => ⟨o, 0, q2, q3, sg (Go.bits .or .u32 (bt wv 25 7 * 32 % 4294967296) (bt wv 7 5)) 12⟩
  | 6 => ⟨o, 0, q2, q3, sg (Go.bits .or .u32 (Go.bits .or .u32 (Go.bits .or .u32 (bt wv 31 1 * 4096 % 4294967296) (bt wv 7 1 * 2048 % 4294967296)) (bt wv 25 6 * 32 % 4294967296)) (bt wv 8 4 * 2 % 4294967296)) 13⟩
  | 7 => ⟨o, q1, q2, q3, 0⟩
  | 8 => ⟨o, q1, q2, 0, 0⟩
  | 9 => ⟨o, q1, q2, 0, wrap32 (bt wv 20 5)⟩
  | _ => ⟨o, 0, 0, 0, 0⟩
noncomputable def decR (r : S119) (wv : Int) : S63 := decOf r.f0 r.f2 wv (IntKind.u8.wrap (bt wv 7 5)) (IntKind.u8.wrap (bt wv 15 5)) (IntKind.u8.wrap (bt wv 20 5))
noncomputable def putR (x : S63) : Option (Int × Int) := bulwarkref05_Put.f 100 x.f0 x.f1 x.f2 x.f3 x.f4
/-- The first row's instruction whose word it is. -/
noncomputable def getIn (wv : Int) : List S119 → Option S63
  | [] => none
  | r :: l => match putR (decR r wv) with
    | some (v, e) => if e = 0 ∧ v = wv then some (decR r wv) else getIn wv l
    | none => none
theorem table_len : theTable.length = 68 := by kernel_rfl
theorem get_step (wv : Int) (i : S63) (k : Nat) (hk : k < 68) (h : getIn wv (theTable.drop k) = some i) : ∃ v e, putR (decR (theTable.getD k z119) wv) = some (v, e) ∧ ((e = 0 ∧ v = wv ∧ i = decR (theTable.getD k z119) wv) ∨ (¬ (e = 0 ∧ v = wv) ∧ getIn wv (theTable.drop (k + 1)) = some i)) := by
  have hl : k < theTable.length := by rw [table_len]; exact hk
  rw [List.drop_eq_getElem_cons hl] at h
  rw [List.getD_eq_getElem?_getD, List.getElem?_eq_getElem hl, Option.getD_some]
  simp only [getIn] at h
  split at h
  · rename_i v e he
    refine ⟨v, e, he, ?_⟩
    split at h
    · rename_i hc
      exact .inl ⟨hc.1, hc.2, (Option.some.inj h).symm⟩
    · rename_i hc
      exact .inr ⟨hc, h⟩
  · cases h
theorem get_end {wv : Int} {i : S63} {k : Nat} (h : getIn wv (theTable.drop k) = some i) (hk : 68 ≤ k) : False := by
  rw [List.drop_of_length_le (by rw [table_len]; exact hk)] at h
  cases h
theorem putR_calls (x : S63) (v e : Int) (h : putR x = some (v, e)) (w : World) : Calls Tryz.prog 69 #[.agg #[.int .u8 x.f0, .int .u8 x.f1, .int .u8 x.f2, .int .u8 x.f3, .int .i32 x.f4]] w fun e' w' => e' = .returned (.tuple #[.int .u32 v, .int .i64 e]) ∧ Below w.heap.size w w' :=
  bulwarkref05_Put.calls 100 x.f0 x.f1 x.f2 x.f3 x.f4 v e w h
end Go.Proofs.YtfbmjfponkkaeaaGreatDoor.Num
