/- Contracts of functions that only reckon, as print.sh wrote them for this seat's translation (a part of its texts, put together by pruneprint.py). -/
import Derived.Test.YtfbmjfponkkaeaaGreatDoorPrA
import Derived.Test.YtfbmjfponkkaeaaGreatDoorRun
namespace Go.Proofs.YtfbmjfponkkaeaaGreatDoor.Pr
open Go.RowKit Go.Proofs.YtfbmjfponkkaeaaGreatDoorW.PrintWords Go.Proofs.YtfbmjfponkkaeaaGreatDoorW.PrintLast Go.Proofs.YtfbmjfponkkaeaaGreatDoorW.PrintMore
attribute [local go_sem] max2_int min2_int max_two min_two max_three min_three max_four min_four   -- for this text's walks alone
set_option linter.unusedVariables false
set_option linter.unusedSimpArgs false
/-! ### bulwarkref05_bits: function 67 -/
def bulwarkref05_bits.f (a0 : Int) (a1 : Int) (a2 : Int) : Option (Int) := if 0 ≤ a1 then (if 0 ≤ a2 then (some (Go.bits .and .u32 (shr .u32 a0 a1) (((shl .u32 1 a2) - 1) % 4294967296))) else (none)) else (none)
set_option maxHeartbeats 8000000 in
set_option maxRecDepth 100000 in
theorem bulwarkref05_bits.calls (a0 : Int) (a1 : Int) (a2 : Int) (r : Int) (w : World) (h : bulwarkref05_bits.f a0 a1 a2 = some r) :
    Calls Tryz.prog 67 #[.int .u32 a0, .int .u64 a1, .int .u64 a2] w fun e w' => e = .returned (.int .u32 r) ∧ Drawn0 w w' := by
  have H : (if 0 ≤ a1 then (if 0 ≤ a2 then (some (Go.bits .and .u32 (shr .u32 a0 a1) (((shl .u32 1 a2) - 1) % 4294967296))) else (none)) else (none)) = some r := h
  clear h
  by_cases c4 : 0 ≤ a1
  · rw [if_pos c4] at H
    have c4b0 := eq_true c4
    have c4b1 : decide (0 ≤ a1) = true := decide_eq_true c4
    clear c4
    obtain ⟨ji5, hji5⟩ : ∃ j_ : Int, (shr .u32 a0 a1) = j_ := ⟨_, rfl⟩
    replace H : (if 0 ≤ a2 then (some (Go.bits .and .u32 (ji5) (((shl .u32 1 a2) - 1) % 4294967296))) else (none)) = some r := by first | (rw [hji5] at H; exact H) | (simp only [hji5] at H ⊢; exact H)
    have hji5_ : (a0 / 2 ^ min a1.toNat 32) = ji5 := hji5
    have hji5z : a1 ≤ 32 → (a0 / 2 ^ a1.toNat) = ji5 := shr_small hji5
    by_cases c6 : 0 ≤ a2
    · rw [if_pos c6] at H
      have c6b0 := eq_true c6
      have c6b1 : decide (0 ≤ a2) = true := decide_eq_true c6
      clear c6
      obtain ⟨ji7, hji7⟩ : ∃ j_ : Int, (shl .u32 1 a2) = j_ := ⟨_, rfl⟩
      replace H : (some (Go.bits .and .u32 (ji5) (((ji7) - 1) % 4294967296))) = some r := by first | (rw [hji7] at H; exact H) | (simp only [hji7] at H ⊢; exact H)
      have hji7_ : (IntKind.u32.wrap (1 * 2 ^ min a2.toNat 32)) = ji7 := hji7
      have hji7z : a2 ≤ 32 → (IntKind.u32.wrap (1 * 2 ^ a2.toNat)) = ji7 := shl_small hji7
      have hji7u : (IntKind.u32.wrap (2 ^ min a2.toNat 32)) = ji7 := by have h_ := hji7_; rw [Int.one_mul] at h_; exact h_
      have hji7v : a2 ≤ 32 → (IntKind.u32.wrap (2 ^ a2.toNat)) = ji7 := fun hle_ => by have h_ := hji7z hle_; rw [Int.one_mul] at h_; exact h_
      obtain rfl := Option.some.inj H
      go_enter Tryz.func67, Tryz.ntmps67
      go_wp2
      go_ret
      exact ⟨by first | rfl | (simp; done) | (simp only [← hji5, ← hji7] <;> (first | rfl | simp)) | (simp [*]; done), by repeat (first | exact Drawn0.refl _ | apply Drawn0.step)⟩
    · rw [if_neg c6] at H
      exact absurd H (by simp)
  · rw [if_neg c4] at H
    exact absurd H (by simp)

/-! ### bulwarkref05_Table: function 66 -/
def bulwarkref05_Table.f  : Option ((List (S119))) := some (([(⟨1, (⟨#[108, 117, 105]⟩ : ByteArray), 0, 55, 0, 0⟩ : S119), (⟨2, (⟨#[97, 117, 105, 112, 99, 99]⟩ : ByteArray), 0, 23, 0, 0⟩ : S119), (⟨3, (⟨#[99, 106, 97, 108]⟩ : ByteArray), 1, 111, 0, 0⟩ : S119), (⟨4, (⟨#[99, 106, 97, 108, 114]⟩ : ByteArray), 2, 103, 0, 0⟩ : S119), (⟨5, (⟨#[98, 101, 113]⟩ : ByteArray), 6, 99, 0, 0⟩ : S119), (⟨6, (⟨#[98, 110, 101]⟩ : ByteArray), 6, 99, 1, 0⟩ : S119), (⟨7, (⟨#[98, 108, 116]⟩ : ByteArray), 6, 99, 4, 0⟩ : S119), (⟨8, (⟨#[98, 103, 101]⟩ : ByteArray), 6, 99, 5, 0⟩ : S119), (⟨9, (⟨#[98, 108, 116, 117]⟩ : ByteArray), 6, 99, 6, 0⟩ : S119), (⟨10, (⟨#[98, 103, 101, 117]⟩ : ByteArray), 6, 99, 7, 0⟩ : S119), (⟨11, (⟨#[108, 98]⟩ : ByteArray), 2, 3, 0, 0⟩ : S119), (⟨12, (⟨#[108, 104]⟩ : ByteArray), 2, 3, 1, 0⟩ : S119), (⟨13, (⟨#[108, 119]⟩ : ByteArray), 2, 3, 2, 0⟩ : S119), (⟨14, (⟨#[99, 108, 99]⟩ : ByteArray), 2, 3, 3, 0⟩ : S119), (⟨15, (⟨#[108, 98, 117]⟩ : ByteArray), 2, 3, 4, 0⟩ : S119), (⟨16, (⟨#[108, 104, 117]⟩ : ByteArray), 2, 3, 5, 0⟩ : S119), (⟨17, (⟨#[115, 98]⟩ : ByteArray), 5, 35, 0, 0⟩ : S119), (⟨18, (⟨#[115, 104]⟩ : ByteArray), 5, 35, 1, 0⟩ : S119), (⟨19, (⟨#[115, 119]⟩ : ByteArray), 5, 35, 2, 0⟩ : S119), (⟨20, (⟨#[99, 115, 99]⟩ : ByteArray), 5, 35, 3, 0⟩ : S119), (⟨21, (⟨#[97, 100, 100, 105]⟩ : ByteArray), 2, 19, 0, 0⟩ : S119), (⟨22, (⟨#[115, 108, 116, 105]⟩ : ByteArray), 2, 19, 2, 0⟩ : S119), (⟨23, (⟨#[115, 108, 116, 105, 117]⟩ : ByteArray), 2, 19, 3, 0⟩ : S119), (⟨24, (⟨#[120, 111, 114, 105]⟩ : ByteArray), 2, 19, 4, 0⟩ : S119), (⟨25, (⟨#[111, 114, 105]⟩ : ByteArray), 2, 19, 6, 0⟩ : S119), (⟨26, (⟨#[97, 110, 100, 105]⟩ : ByteArray), 2, 19, 7, 0⟩ : S119), (⟨27, (⟨#[115, 108, 108, 105]⟩ : ByteArray), 4, 19, 1, 0⟩ : S119), (⟨28, (⟨#[115, 114, 108, 105]⟩ : ByteArray), 4, 19, 5, 0⟩ : S119), (⟨29, (⟨#[115, 114, 97, 105]⟩ : ByteArray), 4, 19, 5, 32⟩ : S119), (⟨30, (⟨#[97, 100, 100]⟩ : ByteArray), 7, 51, 0, 0⟩ : S119), (⟨31, (⟨#[115, 117, 98]⟩ : ByteArray), 7, 51, 0, 32⟩ : S119), (⟨32, (⟨#[115, 108, 108]⟩ : ByteArray), 7, 51, 1, 0⟩ : S119), (⟨33, (⟨#[115, 108, 116]⟩ : ByteArray), 7, 51, 2, 0⟩ : S119), (⟨34, (⟨#[115, 108, 116, 117]⟩ : ByteArray), 7, 51, 3, 0⟩ : S119), (⟨35, (⟨#[120, 111, 114]⟩ : ByteArray), 7, 51, 4, 0⟩ : S119), (⟨36, (⟨#[115, 114, 108]⟩ : ByteArray), 7, 51, 5, 0⟩ : S119), (⟨37, (⟨#[115, 114, 97]⟩ : ByteArray), 7, 51, 5, 32⟩ : S119), (⟨38, (⟨#[111, 114]⟩ : ByteArray), 7, 51, 6, 0⟩ : S119), (⟨39, (⟨#[97, 110, 100]⟩ : ByteArray), 7, 51, 7, 0⟩ : S119), (⟨40, (⟨#[109, 117, 108]⟩ : ByteArray), 7, 51, 0, 1⟩ : S119), (⟨41, (⟨#[109, 117, 108, 104]⟩ : ByteArray), 7, 51, 1, 1⟩ : S119), (⟨42, (⟨#[109, 117, 108, 104, 115, 117]⟩ : ByteArray), 7, 51, 2, 1⟩ : S119), (⟨43, (⟨#[109, 117, 108, 104, 117]⟩ : ByteArray), 7, 51, 3, 1⟩ : S119), (⟨44, (⟨#[100, 105, 118]⟩ : ByteArray), 7, 51, 4, 1⟩ : S119), (⟨45, (⟨#[100, 105, 118, 117]⟩ : ByteArray), 7, 51, 5, 1⟩ : S119), (⟨46, (⟨#[114, 101, 109]⟩ : ByteArray), 7, 51, 6, 1⟩ : S119), (⟨47, (⟨#[114, 101, 109, 117]⟩ : ByteArray), 7, 51, 7, 1⟩ : S119), (⟨48, (⟨#[99, 46, 105, 110, 99, 97, 100, 100, 114, 105, 109, 109]⟩ : ByteArray), 2, 91, 1, 0⟩ : S119), (⟨49, (⟨#[99, 46, 115, 101, 116, 98, 111, 117, 110, 100, 115, 105, 109, 109]⟩ : ByteArray), 3, 91, 2, 0⟩ : S119), (⟨50, (⟨#[99, 46, 115, 101, 116, 98, 111, 117, 110, 100, 115]⟩ : ByteArray), 7, 91, 0, 8⟩ : S119), (⟨51, (⟨#[99, 46, 115, 101, 97, 108]⟩ : ByteArray), 7, 91, 0, 11⟩ : S119), (⟨52, (⟨#[99, 46, 117, 110, 115, 101, 97, 108]⟩ : ByteArray), 8, 91, 0, 384⟩ : S119), (⟨53, (⟨#[99, 46, 97, 110, 100, 112, 101, 114, 109]⟩ : ByteArray), 7, 91, 0, 13⟩ : S119), (⟨54, (⟨#[99, 46, 115, 101, 116, 97, 100, 100, 114]⟩ : ByteArray), 7, 91, 0, 16⟩ : S119), (⟨55, (⟨#[99, 46, 105, 110, 99, 97, 100, 100, 114]⟩ : ByteArray), 7, 91, 0, 17⟩ : S119), (⟨56, (⟨#[99, 46, 116, 101, 115, 116, 115, 117, 98, 115, 101, 116]⟩ : ByteArray), 7, 91, 0, 32⟩ : S119), (⟨57, (⟨#[99, 46, 103, 101, 116, 112, 101, 114, 109]⟩ : ByteArray), 8, 91, 0, 4064⟩ : S119), (⟨58, (⟨#[99, 46, 103, 101, 116, 116, 121, 112, 101]⟩ : ByteArray), 8, 91, 0, 4065⟩ : S119), (⟨59, (⟨#[99, 46, 103, 101, 116, 98, 97, 115, 101]⟩ : ByteArray), 8, 91, 0, 4066⟩ : S119), (⟨60, (⟨#[99, 46, 103, 101, 116, 108, 101, 110]⟩ : ByteArray), 8, 91, 0, 4067⟩ : S119), (⟨61, (⟨#[99, 46, 103, 101, 116, 116, 97, 103]⟩ : ByteArray), 8, 91, 0, 4068⟩ : S119), (⟨62, (⟨#[99, 46, 109, 111, 118, 101]⟩ : ByteArray), 8, 91, 0, 4074⟩ : S119), (⟨63, (⟨#[99, 46, 99, 108, 101, 97, 114, 116, 97, 103]⟩ : ByteArray), 8, 91, 0, 4075⟩ : S119), (⟨64, (⟨#[99, 46, 103, 101, 116, 97, 100, 100, 114]⟩ : ByteArray), 8, 91, 0, 4079⟩ : S119), (⟨65, (⟨#[99, 46, 115, 101, 110, 116, 114, 121]⟩ : ByteArray), 8, 91, 0, 4081⟩ : S119), (⟨66, (⟨#[99, 46, 115, 112, 101, 99, 105, 97, 108, 114, 119]⟩ : ByteArray), 9, 91, 0, 1⟩ : S119), (⟨67, (⟨#[101, 99, 97, 108, 108]⟩ : ByteArray), 10, 115, 0, 0⟩ : S119), (⟨68, (⟨#[109, 114, 101, 116]⟩ : ByteArray), 10, 807403635, 0, 0⟩ : S119)] : List (S119)))
/-- The cells of the table's rows, one behind the other. -/
def flat119 (l : List S119) : List Value := l.flatMap fun x => [.int .u8 x.f0, .string x.f1, .int .i64 x.f2, .int .u32 x.f3, .int .u32 x.f4, .int .u32 x.f5]
theorem reps119 (w : World) (base : Nat) (ok : Nat → Prop) (l : List S119) : Reps (k119.M w base ok) k119.sz l (flat119 l) := by
  have key : ∀ (l l0 : List S119) (cs : List Value), Reps (k119.M w base ok) k119.sz l0 cs → Reps (k119.M w base ok) k119.sz (l0 ++ l) (cs ++ flat119 l) := by
    intro l
    induction l with
    | nil => intro l0 cs h; simpa [flat119] using h
    | cons x l ih =>
      intro l0 cs h
      have h1 := ih (l0 ++ [x]) (cs ++ [.int .u8 x.f0, .string x.f1, .int .i64 x.f2, .int .u32 x.f3, .int .u32 x.f4, .int .u32 x.f5]) (h.snoc (k119_mkM w base ok x) rfl)
      simpa [flat119] using h1
  simpa using key l [] [] (Reps.none _ _)
def theTable : List S119 := (bulwarkref05_Table.f).getD []
set_option maxRecDepth 100000 in
theorem table_run (w : World) : Run.runF Tryz.prog Tryz.f66 #[] w = some (.ok (.slice (some ⟨w.heap.size, 0, none⟩) 68 68) (w.alloc (.cells (flat119 theTable).toArray 119)), w.alloc (.cells (flat119 theTable).toArray 119)) := by kernel_rfl
theorem bulwarkref05_Table.calls  (r : List (S119)) (w : World) (h : bulwarkref05_Table.f  = some r) :
    Calls Tryz.prog 66 #[] w fun e w' => ∃ v0_ : Value, e = .returned (v0_) ∧ Kd.R k119 119 w' w.heap.size (fun _ => True) v0_ r ∧ Below w.heap.size w w' := by
  refine Run.calls_of_runF Tryz.func66 (table_run w) ⟨_, rfl, ⟨fun _ _ => trivial, ?_⟩, (Below.refl _ _).alloc (Nat.le_refl _) _⟩
  have e : theTable = r := by unfold theTable; rw [h]; rfl
  have hl : theTable.length = 68 := by decide +kernel
  have := OwnRow.lit (R := k119.M (w.alloc (.cells (flat119 theTable).toArray 119)) w.heap.size (fun k => True ∧ some k ≠ (Value.slice (some ⟨w.heap.size, 0, none⟩) 68 68).ownBlock)) (e := 119) w w.heap.size (reps119 _ _ _ theTable) (Nat.le_refl _) (by rw [hl]; decide)
  rw [hl] at this
  rw [← e]
  exact this

/-! ### bulwarkref05_row: function 101 -/
def bulwarkref05_row.l0 : Nat → Int → List (S119) → Int → Option (Int × ByteArray × Int × Int × Int × Int × Bool)
  | 0, _, _, _ => none
  | k + 1, x0, x4, x5 => if x5 < (x4.length : Int) then (if 0 ≤ x5 then (if ((rd_T119 x4 x5).f0) = x0 then (some ((rd_T119 x4 x5).f0, (rd_T119 x4 x5).f1, (rd_T119 x4 x5).f2, (rd_T119 x4 x5).f3, (rd_T119 x4 x5).f4, (rd_T119 x4 x5).f5, true)) else (bulwarkref05_row.l0 k x0 x4 (wrap64 (x5 + 1)))) else (none)) else (some (0, (⟨#[]⟩ : ByteArray), 0, 0, 0, 0, false))
def bulwarkref05_row.f (k : Nat) (a0 : Int) : Option (Int × ByteArray × Int × Int × Int × Int × Bool) := (bulwarkref05_Table.f).bind fun t177 => (bulwarkref05_row.l0 k a0 t177 0)
theorem bulwarkref05_row.mono_l : ∀ k, (∀ y0 y1 y2, LeO (bulwarkref05_row.l0 k y0 y1 y2) (bulwarkref05_row.l0 (k + 1) y0 y1 y2))
  | 0 => fun _ _ _ r h => by simp [bulwarkref05_row.l0] at h
  | k + 1 => by
    have ih0 := bulwarkref05_row.mono_l k
    · intro y0 y1 y2
      unfold bulwarkref05_row.l0
      repeat' first
      | (with_reducible exact ih0 _ _ _)
      | (with_reducible exact LeO.refl _)
      | (with_reducible exact LeO.none _)
      | (with_reducible refine LeO.ite ?_ ?_)
      | (with_reducible refine LeO.bind ?_ (fun _ => ?_))
      | exact ih0 _ _ _
      | exact LeO.none _
      | refine LeO.ite ?_ ?_
      | refine LeO.bind ?_ (fun _ => ?_)
theorem bulwarkref05_row.mono : ∀ a0 k, LeO (bulwarkref05_row.f k a0) (bulwarkref05_row.f (k + 1) a0) := by
  intro a0 k
  have ih0 := bulwarkref05_row.mono_l k
  unfold bulwarkref05_row.f
  repeat' first
      | (with_reducible exact ih0 _ _ _)
      | (with_reducible exact LeO.refl _)
      | (with_reducible exact LeO.none _)
      | (with_reducible refine LeO.ite ?_ ?_)
      | (with_reducible refine LeO.bind ?_ (fun _ => ?_))
      | exact ih0 _ _ _
      | exact LeO.none _
      | refine LeO.ite ?_ ?_
      | refine LeO.bind ?_ (fun _ => ?_)
set_option maxHeartbeats 8000000 in
set_option maxRecDepth 100000 in
theorem bulwarkref05_row.calls (k : Nat) (a0 : Int) (r1 : Int) (r2 : ByteArray) (r3 : Int) (r4 : Int) (r5 : Int) (r6 : Int) (r7 : Bool) (w : World) (h : bulwarkref05_row.f k a0 = some (r1, r2, r3, r4, r5, r6, r7)) :
    Calls Tryz.prog 101 #[.int .u8 a0] w fun e w' => e = .returned (.tuple #[.agg #[.int .u8 r1, .string r2, .int .i64 r3, .int .u32 r4, .int .u32 r5, .int .u32 r6], .bool r7]) ∧ Below w.heap.size w w' := by
  have hu119 := Tryz.underlying119
  have HB := Aside0.mk (Below.refl w.heap.size w)
  have H : ((bulwarkref05_Table.f).bind fun t177 => (bulwarkref05_row.l0 k a0 t177 0)) = some (r1, r2, r3, r4, r5, r6, r7) := h
  clear h
  replace H := Option.bind_eq_some_iff.mp H
  obtain ⟨t177, A20, H⟩ := H
  replace H : (bulwarkref05_row.l0 k a0 t177 0) = some (r1, r2, r3, r4, r5, r6, r7) := H
  have A2 := Aside0.mk A20
  clear A20
  have H' := Aside0.mk H
  clear H
  go_enter Tryz.func101, Tryz.ntmps101
  go_wp2_with (first | ((with_reducible refine gate_dst (N := 2) rfl ?_); refine box_event ?hg (N := 2) ?hd (cs := #[.int .u8 0, .string (⟨#[]⟩ : ByteArray), .int .i64 0, .int .u32 0, .int .u32 0, .int .u32 0]) (t := 119) ?hr ?_; (case hd => rfl); (case hg => rfl); (case hr => first | (go_simp; done) | (go_simp; rfl)); intro gb176 hg w3 hbox hb; have n0_ := Aside0.mk (below_step (by repeat (first | (with_reducible first | exact HB.out | apply below_alloc | apply pw_below_drewN | apply below_drew1) | exact HB.out)) hb); have n1_ := Aside0.mk (hbox); have n2_ := Aside0.mk ((by rw [hg]; exact (below_size (by repeat (first | (with_reducible first | exact HB.out | apply below_alloc | apply pw_below_drewN | apply below_drew1) | exact HB.out))) : w.heap.size ≤ gb176)); have n3_ := Aside0.mk ((by rw [hg]; exact (below_size (by repeat (first | (with_reducible first | exact HB.out | apply below_alloc | apply pw_below_drewN | apply below_drew1) | exact HB.out))) : w.heap.size ≤ gb176)); clear HB; have HB := n0_; have BK176 := n1_; have GW176 := n2_; have GE176 := n3_; clear n0_ n1_ n2_ n3_; clear hb hbox hg) | ((with_reducible refine gate_callee (f := 66) rfl ?_); refine goesL_ (some 6) rfl rfl Tryz.func66 (by kernel_rfl) rfl #[] rfl (by (try simp only [List.map_toArray, List.map_cons, List.map_nil]); first | done | rfl | (simp only [List.length_drop, List.length_take]; rfl)) ?_; (with_reducible refine (bulwarkref05_Table.calls  t177 _ A2.out).mono ?_); rintro e w4 ⟨v178, rfl, ho0, hb⟩; refine ⟨_, rfl, ?_⟩; have n0_ := Aside0.mk (Kd.R_lower (Kd.R_newB ho0 (g := gb176) (o := .cells #[.int .u8 0, .string (⟨#[]⟩ : ByteArray), .int .i64 0, .int .u32 0, .int .u32 0, .int .u32 0] 119 (0, 0)) (by (with_reducible repeat (first | refine blk_drewN ?_ _ | refine blk_drew ?_ | refine blk_alloc ?_ _)); exact BK176.out)) (below_size (by repeat (first | (with_reducible first | exact HB.out | apply below_alloc | apply pw_below_drewN | apply below_drew1 | refine below_set ?_ GE176.out) | exact HB.out)))); have n1_ := Aside0.mk (blk_below (g := gb176) (o := .cells #[.int .u8 0, .string (⟨#[]⟩ : ByteArray), .int .i64 0, .int .u32 0, .int .u32 0, .int .u32 0] 119 (0, 0)) (by (with_reducible repeat (first | refine blk_drewN ?_ _ | refine blk_drew ?_ | refine blk_alloc ?_ _)); exact BK176.out) hb); have n2_ := Aside0.mk (below_step (by repeat (first | (with_reducible first | exact HB.out | apply below_alloc | apply pw_below_drewN | apply below_drew1 | refine below_set ?_ GE176.out) | exact HB.out)) hb); clear BK176; clear HB; have HO179 := n0_; have BK176 := n1_; have HB := n2_; clear n0_ n1_ n2_; (try clear hb); (try clear hb2); (try clear hk); (try clear hi); (try clear ho0)))
  go_loopg [5] k (fun kq v5 w' => ∃ (x5_1 : Int) (x177000_1 : Int) (x177001_1 : ByteArray) (x177002_1 : Int) (x177003_1 : Int) (x177004_1 : Int) (x177005_1 : Int), v5 = .int .i64 x5_1 ∧ Aside0 (bulwarkref05_row.l0 kq a0 t177 x5_1 = some (r1, r2, r3, r4, r5, r6, r7)) ∧ Aside0 (kq ≤ k) ∧ Aside0 (Kd.R k119 119 w' w.heap.size (fun k_ => k_ ≠ gb176) v178 t177) ∧ Aside0 (w'.heap[gb176]? = some (.cells #[.int .u8 x177000_1, .string x177001_1, .int .i64 x177002_1, .int .u32 x177003_1, .int .u32 x177004_1, .int .u32 x177005_1] 119 (0, 0))) ∧ Aside0 (Below w.heap.size w w'))
  case atStart => exact ⟨(0), (0), ((⟨#[]⟩ : ByteArray)), (0), (0), (0), (0), (by first | rfl | (simp; done) | (simp [*]; done)), H', ⟨Nat.le_refl _⟩, ⟨by (with_reducible repeat (first | apply Kd.R_alloc | apply Kd.R_drewN | apply Kd.R_drew)); exact Kd.R_mono HO179.out (fun _ hk => hk.2)⟩, ⟨by (with_reducible repeat (first | refine blk_drewN ?_ _ | refine blk_drew ?_ | refine blk_alloc ?_ _)); exact BK176.out⟩, ⟨by repeat (first | (with_reducible first | exact HB.out | apply below_alloc | apply pw_below_drewN | apply below_drew1 | refine below_set ?_ GE176.out) | exact HB.out)⟩⟩
  case round =>
    clear H'
    try clear c1
    try clear p2
    obtain ⟨x5_1, x177000_1, x177001_1, x177002_1, x177003_1, x177004_1, x177005_1, rfl, HA, HK1, HO_4, BK176, HB⟩ := hrel
    cases gk with
    | zero => exact absurd HA.out (by simp [bulwarkref05_row.l0])
    | succ k1 =>
      have H := HA.out
      clear HA
      simp only [bulwarkref05_row.l0] at H
      by_cases c5 : x5_1 < (t177.length : Int)
      · rw [if_pos c5] at H
        have c5b0 : decide (x5_1 < (t177.length : Int)) = true := decide_eq_true c5
        clear c5
        by_cases c6 : 0 ≤ x5_1
        · rw [if_pos c6] at H
          have c6b0 : decide (0 ≤ x5_1) = true := decide_eq_true c6
          clear c6
          by_cases c7 : ((rd_T119 t177 x5_1).f0) = a0
          · rw [if_pos c7] at H
            have c7b0 : (((rd_T119 t177 x5_1).f0) == a0) = true := beq_iff_eq.mpr c7
            have c7b1 : (((rd_T119 t177 x5_1).f0) != a0) = false := bne_eq_false_iff_eq.mpr c7
            clear c7
            simp only [Option.some.injEq, Prod.mk.injEq] at H
            obtain ⟨rfl, rfl, rfl, rfl, rfl, rfl, rfl⟩ := H
            obtain ⟨Ao8, co8, eo8⟩ := Kd.R_slice HO_4.out
            subst eo8
            have p180 : 0 ≤ (x5_1 : Int) := of_decide_eq_true (by first | (with_reducible assumption) | assumption)
            have q180 : x5_1 < (t177.length : Int) := of_decide_eq_true (by first | (with_reducible assumption) | assumption)
            obtain ⟨ad180, e180, hx180_0, hx180_1, hx180_2, hx180_3, hx180_4, hx180_5⟩ := at_T119 (Kd.R_reads' HO_4.out).2.2 x5_1 p180 q180
            cases e180
            replace p180 := eq_true p180
            replace q180 := eq_true q180
            have p181 : 0 ≤ (x5_1 : Int) := of_decide_eq_true (by first | (with_reducible assumption) | assumption)
            have q181 : x5_1 < (t177.length : Int) := of_decide_eq_true (by first | (with_reducible assumption) | assumption)
            obtain ⟨ad181, e181, hx181_0, hx181_1, hx181_2, hx181_3, hx181_4, hx181_5⟩ := at_T119 (Kd.R_reads' HO_4.out).2.2 x5_1 p181 q181
            obtain rfl : ad180 = ad181 := (by injection e181)
            replace p181 := eq_true p181
            replace q181 := eq_true q181
            have hcz9_0 : wr.cell? ⟨gb176, 0, none⟩ = some (.int .u8 x177000_1) := (blk_cell BK176.out 0).trans rfl
            have hcz9_1 : wr.cell? ⟨gb176, 1, none⟩ = some (.string x177001_1) := (blk_cell BK176.out 1).trans rfl
            have hcz9_2 : wr.cell? ⟨gb176, 2, none⟩ = some (.int .i64 x177002_1) := (blk_cell BK176.out 2).trans rfl
            have hcz9_3 : wr.cell? ⟨gb176, 3, none⟩ = some (.int .u32 x177003_1) := (blk_cell BK176.out 3).trans rfl
            have hcz9_4 : wr.cell? ⟨gb176, 4, none⟩ = some (.int .u32 x177004_1) := (blk_cell BK176.out 4).trans rfl
            have hcz9_5 : wr.cell? ⟨gb176, 5, none⟩ = some (.int .u32 x177005_1) := (blk_cell BK176.out 5).trans rfl
            have hfz9_0 := blk_frozen BK176.out 0
            have hfz9_1 := blk_frozen BK176.out 1
            have hfz9_2 := blk_frozen BK176.out 2
            have hfz9_3 := blk_frozen BK176.out 3
            have hfz9_4 := blk_frozen BK176.out 4
            have hfz9_5 := blk_frozen BK176.out 5
            go_wp2
            refine bodyPost_ret (results_ct rfl _ _ gb176 119 #[.int .u8 ((rd_T119 t177 x5_1).f0), .string ((rd_T119 t177 x5_1).f1), .int .i64 ((rd_T119 t177 x5_1).f2), .int .u32 ((rd_T119 t177 x5_1).f3), .int .u32 ((rd_T119 t177 x5_1).f4), .int .u32 ((rd_T119 t177 x5_1).f5)] (0, 0) _ rfl (by (with_reducible repeat (first | refine blk_drewN ?_ _ | refine blk_drew ?_ | refine blk_alloc ?_ _)); refine blk_put (cs := #[.int .u8 ((rd_T119 t177 x5_1).f0), .string ((rd_T119 t177 x5_1).f1), .int .i64 ((rd_T119 t177 x5_1).f2), .int .u32 ((rd_T119 t177 x5_1).f3), .int .u32 ((rd_T119 t177 x5_1).f4), .int .u32 x177005_1]) ?_ 5 _ rfl; (with_reducible repeat (first | refine blk_drewN ?_ _ | refine blk_drew ?_ | refine blk_alloc ?_ _)); refine blk_put (cs := #[.int .u8 ((rd_T119 t177 x5_1).f0), .string ((rd_T119 t177 x5_1).f1), .int .i64 ((rd_T119 t177 x5_1).f2), .int .u32 ((rd_T119 t177 x5_1).f3), .int .u32 x177004_1, .int .u32 x177005_1]) ?_ 4 _ rfl; (with_reducible repeat (first | refine blk_drewN ?_ _ | refine blk_drew ?_ | refine blk_alloc ?_ _)); refine blk_put (cs := #[.int .u8 ((rd_T119 t177 x5_1).f0), .string ((rd_T119 t177 x5_1).f1), .int .i64 ((rd_T119 t177 x5_1).f2), .int .u32 x177003_1, .int .u32 x177004_1, .int .u32 x177005_1]) ?_ 3 _ rfl; (with_reducible repeat (first | refine blk_drewN ?_ _ | refine blk_drew ?_ | refine blk_alloc ?_ _)); refine blk_put (cs := #[.int .u8 ((rd_T119 t177 x5_1).f0), .string ((rd_T119 t177 x5_1).f1), .int .i64 x177002_1, .int .u32 x177003_1, .int .u32 x177004_1, .int .u32 x177005_1]) ?_ 2 _ rfl; (with_reducible repeat (first | refine blk_drewN ?_ _ | refine blk_drew ?_ | refine blk_alloc ?_ _)); refine blk_put (cs := #[.int .u8 ((rd_T119 t177 x5_1).f0), .string x177001_1, .int .i64 x177002_1, .int .u32 x177003_1, .int .u32 x177004_1, .int .u32 x177005_1]) ?_ 1 _ rfl; (with_reducible repeat (first | refine blk_drewN ?_ _ | refine blk_drew ?_ | refine blk_alloc ?_ _)); refine blk_put (cs := #[.int .u8 x177000_1, .string x177001_1, .int .i64 x177002_1, .int .u32 x177003_1, .int .u32 x177004_1, .int .u32 x177005_1]) ?_ 0 _ rfl; (with_reducible repeat (first | refine blk_drewN ?_ _ | refine blk_drew ?_ | refine blk_alloc ?_ _)); exact BK176.out) Tryz.underlying119 rfl (by kernel_rfl)) rfl ?_
            exact ⟨by first | rfl | (simp [errW_none, errW_some] <;> rfl) | (simp [*, errW_none, errW_some] <;> rfl), by repeat (first | (with_reducible first | exact HB.out | apply below_alloc | apply pw_below_drewN | apply below_drew1 | refine below_set ?_ GE176.out) | exact HB.out)⟩
          · rw [if_neg c7] at H
            have c7b0 : (((rd_T119 t177 x5_1).f0) == a0) = false := beq_eq_false_iff_ne.mpr c7
            have c7b1 : (((rd_T119 t177 x5_1).f0) != a0) = true := bne_iff_ne.mpr c7
            have H' := Aside0.mk H
            clear H
            obtain ⟨Ao10, co10, eo10⟩ := Kd.R_slice HO_4.out
            subst eo10
            have p180 : 0 ≤ (x5_1 : Int) := of_decide_eq_true (by first | (with_reducible assumption) | assumption)
            have q180 : x5_1 < (t177.length : Int) := of_decide_eq_true (by first | (with_reducible assumption) | assumption)
            obtain ⟨ad180, e180, hx180_0, hx180_1, hx180_2, hx180_3, hx180_4, hx180_5⟩ := at_T119 (Kd.R_reads' HO_4.out).2.2 x5_1 p180 q180
            cases e180
            replace p180 := eq_true p180
            replace q180 := eq_true q180
            go_wp2
            go_roundg k1
            case measure => have := HK1.out; omega
            case rel => exact ⟨(wrap64 (x5_1 + 1)), (x177000_1), (x177001_1), (x177002_1), (x177003_1), (x177004_1), (x177005_1), (by first | rfl | (simp; done) | (simp [*]; done)), H', ⟨by have := HK1.out; omega⟩, ⟨by (with_reducible repeat (first | apply Kd.R_alloc | apply Kd.R_drewN | apply Kd.R_drew)); exact HO_4.out⟩, ⟨by (with_reducible repeat (first | refine blk_drewN ?_ _ | refine blk_drew ?_ | refine blk_alloc ?_ _)); exact BK176.out⟩, ⟨by repeat (first | (with_reducible first | exact HB.out | apply below_alloc | apply pw_below_drewN | apply below_drew1 | refine below_set ?_ GE176.out) | exact HB.out)⟩⟩
        · rw [if_neg c6] at H
          exact absurd H (by simp)
      · rw [if_neg c5] at H
        have c5b0 : decide (x5_1 < (t177.length : Int)) = false := decide_eq_false c5
        clear c5
        simp only [Option.some.injEq, Prod.mk.injEq] at H
        obtain ⟨rfl, rfl, rfl, rfl, rfl, rfl, rfl⟩ := H
        obtain ⟨Ao11, co11, eo11⟩ := Kd.R_slice HO_4.out
        subst eo11
        have hcz12_0 : wr.cell? ⟨gb176, 0, none⟩ = some (.int .u8 x177000_1) := (blk_cell BK176.out 0).trans rfl
        have hcz12_1 : wr.cell? ⟨gb176, 1, none⟩ = some (.string x177001_1) := (blk_cell BK176.out 1).trans rfl
        have hcz12_2 : wr.cell? ⟨gb176, 2, none⟩ = some (.int .i64 x177002_1) := (blk_cell BK176.out 2).trans rfl
        have hcz12_3 : wr.cell? ⟨gb176, 3, none⟩ = some (.int .u32 x177003_1) := (blk_cell BK176.out 3).trans rfl
        have hcz12_4 : wr.cell? ⟨gb176, 4, none⟩ = some (.int .u32 x177004_1) := (blk_cell BK176.out 4).trans rfl
        have hcz12_5 : wr.cell? ⟨gb176, 5, none⟩ = some (.int .u32 x177005_1) := (blk_cell BK176.out 5).trans rfl
        have hfz12_0 := blk_frozen BK176.out 0
        have hfz12_1 := blk_frozen BK176.out 1
        have hfz12_2 := blk_frozen BK176.out 2
        have hfz12_3 := blk_frozen BK176.out 3
        have hfz12_4 := blk_frozen BK176.out 4
        have hfz12_5 := blk_frozen BK176.out 5
        go_wp2
        refine bodyPost_ret (results_ct rfl _ _ gb176 119 #[.int .u8 0, .string (⟨#[]⟩ : ByteArray), .int .i64 0, .int .u32 0, .int .u32 0, .int .u32 0] (0, 0) _ rfl (by (with_reducible repeat (first | refine blk_drewN ?_ _ | refine blk_drew ?_ | refine blk_alloc ?_ _)); refine blk_put (cs := #[.int .u8 0, .string (⟨#[]⟩ : ByteArray), .int .i64 0, .int .u32 0, .int .u32 0, .int .u32 x177005_1]) ?_ 5 _ rfl; (with_reducible repeat (first | refine blk_drewN ?_ _ | refine blk_drew ?_ | refine blk_alloc ?_ _)); refine blk_put (cs := #[.int .u8 0, .string (⟨#[]⟩ : ByteArray), .int .i64 0, .int .u32 0, .int .u32 x177004_1, .int .u32 x177005_1]) ?_ 4 _ rfl; (with_reducible repeat (first | refine blk_drewN ?_ _ | refine blk_drew ?_ | refine blk_alloc ?_ _)); refine blk_put (cs := #[.int .u8 0, .string (⟨#[]⟩ : ByteArray), .int .i64 0, .int .u32 x177003_1, .int .u32 x177004_1, .int .u32 x177005_1]) ?_ 3 _ rfl; (with_reducible repeat (first | refine blk_drewN ?_ _ | refine blk_drew ?_ | refine blk_alloc ?_ _)); refine blk_put (cs := #[.int .u8 0, .string (⟨#[]⟩ : ByteArray), .int .i64 x177002_1, .int .u32 x177003_1, .int .u32 x177004_1, .int .u32 x177005_1]) ?_ 2 _ rfl; (with_reducible repeat (first | refine blk_drewN ?_ _ | refine blk_drew ?_ | refine blk_alloc ?_ _)); refine blk_put (cs := #[.int .u8 0, .string x177001_1, .int .i64 x177002_1, .int .u32 x177003_1, .int .u32 x177004_1, .int .u32 x177005_1]) ?_ 1 _ rfl; (with_reducible repeat (first | refine blk_drewN ?_ _ | refine blk_drew ?_ | refine blk_alloc ?_ _)); refine blk_put (cs := #[.int .u8 x177000_1, .string x177001_1, .int .i64 x177002_1, .int .u32 x177003_1, .int .u32 x177004_1, .int .u32 x177005_1]) ?_ 0 _ rfl; (with_reducible repeat (first | refine blk_drewN ?_ _ | refine blk_drew ?_ | refine blk_alloc ?_ _)); exact BK176.out) Tryz.underlying119 rfl (by kernel_rfl)) rfl ?_
        exact ⟨by first | rfl | (simp [errW_none, errW_some] <;> rfl) | (simp [*, errW_none, errW_some] <;> rfl), by repeat (first | (with_reducible first | exact HB.out | apply below_alloc | apply pw_below_drewN | apply below_drew1 | refine below_set ?_ GE176.out) | exact HB.out)⟩


/-! ### bulwarkref05_imm: function 141 -/
def bulwarkref05_imm.j0 : Nat → Int → Int → Bool → Option (Bool)
  | 0, _, _, _ => none
  | k + 1, x1, x5, x37 => if x37 = true then (if x1 ≥ (-2048) then (some (decide (x1 < 2048))) else (some false)) else (if x5 = 3 then (if x1 ≥ 0 then (some (decide (x1 < 4096))) else (some false)) else (if x5 = 4 then (if x1 ≥ 0 then (some (decide (x1 < 32))) else (some false)) else (if x5 = 9 then (if x1 ≥ 27 then (some (decide (x1 ≤ 31))) else (some false)) else (some (x1 == 0)))))
def bulwarkref05_imm.f (k : Nat) (a0 : Int) (a1 : Int) : Option (Bool) := if a0 = 0 then (some ((Int.tmod a1 4096) == 0)) else (if a0 = 1 then (if a1 ≥ (-1048576) then (if a1 < 1048576 then (some ((Int.tmod a1 2) == 0)) else (some false)) else (some false)) else (if a0 = 6 then (if a1 ≥ (-4096) then (if a1 < 4096 then (some ((Int.tmod a1 2) == 0)) else (some false)) else (some false)) else (if a0 = 2 then (bulwarkref05_imm.j0 k a1 a0 (a0 == 2)) else (bulwarkref05_imm.j0 k a1 a0 (a0 == 5)))))
theorem bulwarkref05_imm.mono_l : ∀ k, (∀ y0 y1 y2, LeO (bulwarkref05_imm.j0 k y0 y1 y2) (bulwarkref05_imm.j0 (k + 1) y0 y1 y2))
  | 0 => fun _ _ _ r h => by simp [bulwarkref05_imm.j0] at h
  | k + 1 => by
    have ih0 := bulwarkref05_imm.mono_l k
    · intro y0 y1 y2
      unfold bulwarkref05_imm.j0
      repeat' first
      | (with_reducible exact ih0 _ _ _)
      | (with_reducible exact LeO.refl _)
      | (with_reducible exact LeO.none _)
      | (with_reducible refine LeO.ite ?_ ?_)
      | (with_reducible refine LeO.bind ?_ (fun _ => ?_))
      | exact ih0 _ _ _
      | exact LeO.none _
      | refine LeO.ite ?_ ?_
      | refine LeO.bind ?_ (fun _ => ?_)
theorem bulwarkref05_imm.mono : ∀ a0 a1 k, LeO (bulwarkref05_imm.f k a0 a1) (bulwarkref05_imm.f (k + 1) a0 a1) := by
  intro a0 a1 k
  have ih0 := bulwarkref05_imm.mono_l k
  unfold bulwarkref05_imm.f
  repeat' first
      | (with_reducible exact ih0 _ _ _)
      | (with_reducible exact LeO.refl _)
      | (with_reducible exact LeO.none _)
      | (with_reducible refine LeO.ite ?_ ?_)
      | (with_reducible refine LeO.bind ?_ (fun _ => ?_))
      | exact ih0 _ _ _
      | exact LeO.none _
      | refine LeO.ite ?_ ?_
      | refine LeO.bind ?_ (fun _ => ?_)
set_option maxHeartbeats 8000000 in
set_option maxRecDepth 100000 in
theorem bulwarkref05_imm.calls (k : Nat) (a0 : Int) (a1 : Int) (r : Bool) (w : World) (h : bulwarkref05_imm.f k a0 a1 = some r) :
    Calls Tryz.prog 141 #[.int .i64 a0, .int .i32 a1] w fun e w' => e = .returned (.bool r) ∧ Drawn0 w w' := by
  have H : (if a0 = 0 then (some ((Int.tmod a1 4096) == 0)) else (if a0 = 1 then (if a1 ≥ (-1048576) then (if a1 < 1048576 then (some ((Int.tmod a1 2) == 0)) else (some false)) else (some false)) else (if a0 = 6 then (if a1 ≥ (-4096) then (if a1 < 4096 then (some ((Int.tmod a1 2) == 0)) else (some false)) else (some false)) else (if a0 = 2 then (bulwarkref05_imm.j0 k a1 a0 (a0 == 2)) else (bulwarkref05_imm.j0 k a1 a0 (a0 == 5)))))) = some r := h
  clear h
  by_cases c3 : a0 = 0
  · rw [if_pos c3] at H
    have c3b0 : (a0 == 0) = true := beq_iff_eq.mpr c3
    have c3b1 : (a0 != 0) = false := bne_eq_false_iff_eq.mpr c3
    clear c3
    obtain rfl := Option.some.inj H
    go_enter Tryz.func141, Tryz.ntmps141
    go_wp2
    go_ret
    exact ⟨by first | rfl | (simp; done) | (simp [*]; done), by repeat (first | exact Drawn0.refl _ | apply Drawn0.step)⟩
  · rw [if_neg c3] at H
    have c3b0 : (a0 == 0) = false := beq_eq_false_iff_ne.mpr c3
    have c3b1 : (a0 != 0) = true := bne_iff_ne.mpr c3
    by_cases c4 : a0 = 1
    · rw [if_pos c4] at H
      have c4b0 : (a0 == 1) = true := beq_iff_eq.mpr c4
      have c4b1 : (a0 != 1) = false := bne_eq_false_iff_eq.mpr c4
      clear c4
      by_cases c5 : a1 ≥ (-1048576)
      · rw [if_pos c5] at H
        have c5b0 : decide ((-1048576) ≤ a1) = true := decide_eq_true c5
        clear c5
        by_cases c6 : a1 < 1048576
        · rw [if_pos c6] at H
          have c6b0 : decide (a1 < 1048576) = true := decide_eq_true c6
          clear c6
          obtain rfl := Option.some.inj H
          go_enter Tryz.func141, Tryz.ntmps141
          go_wp2
          go_ret
          exact ⟨by first | rfl | (simp; done) | (simp [*]; done), by repeat (first | exact Drawn0.refl _ | apply Drawn0.step)⟩
        · rw [if_neg c6] at H
          have c6b0 : decide (a1 < 1048576) = false := decide_eq_false c6
          clear c6
          obtain rfl := Option.some.inj H
          go_enter Tryz.func141, Tryz.ntmps141
          go_wp2
          go_ret
          exact ⟨by first | rfl | (simp; done) | (simp [*]; done), by repeat (first | exact Drawn0.refl _ | apply Drawn0.step)⟩
      · rw [if_neg c5] at H
        have c5b0 : decide ((-1048576) ≤ a1) = false := decide_eq_false c5
        clear c5
        obtain rfl := Option.some.inj H
        go_enter Tryz.func141, Tryz.ntmps141
        go_wp2
        go_ret
        exact ⟨by first | rfl | (simp; done) | (simp [*]; done), by repeat (first | exact Drawn0.refl _ | apply Drawn0.step)⟩
    · rw [if_neg c4] at H
      have c4b0 : (a0 == 1) = false := beq_eq_false_iff_ne.mpr c4
      have c4b1 : (a0 != 1) = true := bne_iff_ne.mpr c4
      by_cases c7 : a0 = 6
      · rw [if_pos c7] at H
        have c7b0 : (a0 == 6) = true := beq_iff_eq.mpr c7
        have c7b1 : (a0 != 6) = false := bne_eq_false_iff_eq.mpr c7
        clear c7
        by_cases c8 : a1 ≥ (-4096)
        · rw [if_pos c8] at H
          have c8b0 : decide ((-4096) ≤ a1) = true := decide_eq_true c8
          clear c8
          by_cases c9 : a1 < 4096
          · rw [if_pos c9] at H
            have c9b0 : decide (a1 < 4096) = true := decide_eq_true c9
            clear c9
            obtain rfl := Option.some.inj H
            go_enter Tryz.func141, Tryz.ntmps141
            go_wp2
            go_ret
            exact ⟨by first | rfl | (simp; done) | (simp [*]; done), by repeat (first | exact Drawn0.refl _ | apply Drawn0.step)⟩
          · rw [if_neg c9] at H
            have c9b0 : decide (a1 < 4096) = false := decide_eq_false c9
            clear c9
            obtain rfl := Option.some.inj H
            go_enter Tryz.func141, Tryz.ntmps141
            go_wp2
            go_ret
            exact ⟨by first | rfl | (simp; done) | (simp [*]; done), by repeat (first | exact Drawn0.refl _ | apply Drawn0.step)⟩
        · rw [if_neg c8] at H
          have c8b0 : decide ((-4096) ≤ a1) = false := decide_eq_false c8
          clear c8
          obtain rfl := Option.some.inj H
          go_enter Tryz.func141, Tryz.ntmps141
          go_wp2
          go_ret
          exact ⟨by first | rfl | (simp; done) | (simp [*]; done), by repeat (first | exact Drawn0.refl _ | apply Drawn0.step)⟩
      · rw [if_neg c7] at H
        have c7b0 : (a0 == 6) = false := beq_eq_false_iff_ne.mpr c7
        have c7b1 : (a0 != 6) = true := bne_iff_ne.mpr c7
        have HC10 := Aside0.mk H
        clear H
        go_enter Tryz.func141, Tryz.ntmps141
        go_upto_if 37 with (fail)
        go_cut [37] (fun v37 wc => ∃ (kq : Nat) (x37_9 : Bool), v37 = .bool x37_9 ∧ Aside0 (bulwarkref05_imm.j0 kq a1 a0 x37_9 = some r) ∧ Aside0 (kq ≤ k) ∧ Drawn0 w wc)
        case first =>
          have H := HC10.out
          clear HC10
          by_cases c11 : a0 = 2
          · rw [if_pos c11] at H
            have c11b0 : (a0 == 2) = true := beq_iff_eq.mpr c11
            have c11b1 : (a0 != 2) = false := bne_eq_false_iff_eq.mpr c11
            clear c11
            (first | rw [c11b0] | (simp only [i64_w, i32_w]; rw [c11b0]) | skip)
            have H' := Aside0.mk H
            clear H
            go_wp2
            go_meet
            case rel => exact ⟨_, ((a0 == 2)), (by first | rfl | (simp; done) | (simp [*]; done)), H', ⟨by first | omega | exact Nat.le_refl _⟩, by repeat (first | exact Drawn0.refl _ | apply Drawn0.step)⟩
          · rw [if_neg c11] at H
            have c11b0 : (a0 == 2) = false := beq_eq_false_iff_ne.mpr c11
            have c11b1 : (a0 != 2) = true := bne_iff_ne.mpr c11
            (first | rw [c11b0] | (simp only [i64_w, i32_w]; rw [c11b0]) | skip)
            have H' := Aside0.mk H
            clear H
            go_wp2
            go_meet
            case rel => exact ⟨_, ((a0 == 5)), (by first | rfl | (simp; done) | (simp [*]; done)), H', ⟨by first | omega | exact Nat.le_refl _⟩, by repeat (first | exact Drawn0.refl _ | apply Drawn0.step)⟩
        case rest =>
          clear HC10
          try clear c1
          try clear p2
          try clear c3
          try clear c3b0
          try clear c3b1
          try clear c4
          try clear c4b0
          try clear c4b1
          try clear c5
          try clear c5b0
          try clear c6
          try clear c6b0
          try clear c7
          try clear c7b0
          try clear c7b1
          try clear c8
          try clear c8b0
          try clear c9
          try clear c9b0
          try clear c11
          try clear c11b0
          try clear c11b1
          obtain ⟨kq, x37_9, rfl, HA, HJ9, ⟨mc9, rfl⟩⟩ := hcut
          cases kq with
          | zero => exact absurd HA.out (by simp [bulwarkref05_imm.j0])
          | succ kj9 =>
            have H := HA.out
            clear HA
            simp only [bulwarkref05_imm.j0] at H
            by_cases c12 : x37_9 = true
            · subst c12
              have H1 : (if a1 ≥ (-2048) then (some (decide (a1 < 2048))) else (some false)) = some r := by rw [if_pos rfl] at H; exact H
              clear H
              have H := H1
              clear H1
              by_cases c13 : a1 ≥ (-2048)
              · rw [if_pos c13] at H
                have c13b0 : decide ((-2048) ≤ a1) = true := decide_eq_true c13
                clear c13
                obtain rfl := Option.some.inj H
                go_wp2
                go_ret
                exact ⟨by first | rfl | (simp; done) | (simp [*]; done), by repeat (first | exact Drawn0.refl _ | apply Drawn0.step)⟩
              · rw [if_neg c13] at H
                have c13b0 : decide ((-2048) ≤ a1) = false := decide_eq_false c13
                clear c13
                obtain rfl := Option.some.inj H
                go_wp2
                go_ret
                exact ⟨by first | rfl | (simp; done) | (simp [*]; done), by repeat (first | exact Drawn0.refl _ | apply Drawn0.step)⟩
            · replace c12 := Bool.eq_false_iff.mpr c12
              subst c12
              have H1 : (if a0 = 3 then (if a1 ≥ 0 then (some (decide (a1 < 4096))) else (some false)) else (if a0 = 4 then (if a1 ≥ 0 then (some (decide (a1 < 32))) else (some false)) else (if a0 = 9 then (if a1 ≥ 27 then (some (decide (a1 ≤ 31))) else (some false)) else (some (a1 == 0))))) = some r := by rw [if_neg (show ¬ (false = true) by decide)] at H; exact H
              clear H
              have H := H1
              clear H1
              by_cases c14 : a0 = 3
              · rw [if_pos c14] at H
                have c14b0 : (a0 == 3) = true := beq_iff_eq.mpr c14
                have c14b1 : (a0 != 3) = false := bne_eq_false_iff_eq.mpr c14
                clear c14
                by_cases c15 : a1 ≥ 0
                · rw [if_pos c15] at H
                  have c15b0 : decide (0 ≤ a1) = true := decide_eq_true c15
                  clear c15
                  obtain rfl := Option.some.inj H
                  go_wp2
                  go_ret
                  exact ⟨by first | rfl | (simp; done) | (simp [*]; done), by repeat (first | exact Drawn0.refl _ | apply Drawn0.step)⟩
                · rw [if_neg c15] at H
                  have c15b0 : decide (0 ≤ a1) = false := decide_eq_false c15
                  clear c15
                  obtain rfl := Option.some.inj H
                  go_wp2
                  go_ret
                  exact ⟨by first | rfl | (simp; done) | (simp [*]; done), by repeat (first | exact Drawn0.refl _ | apply Drawn0.step)⟩
              · rw [if_neg c14] at H
                have c14b0 : (a0 == 3) = false := beq_eq_false_iff_ne.mpr c14
                have c14b1 : (a0 != 3) = true := bne_iff_ne.mpr c14
                by_cases c16 : a0 = 4
                · rw [if_pos c16] at H
                  have c16b0 : (a0 == 4) = true := beq_iff_eq.mpr c16
                  have c16b1 : (a0 != 4) = false := bne_eq_false_iff_eq.mpr c16
                  clear c16
                  by_cases c17 : a1 ≥ 0
                  · rw [if_pos c17] at H
                    have c17b0 : decide (0 ≤ a1) = true := decide_eq_true c17
                    clear c17
                    obtain rfl := Option.some.inj H
                    go_wp2
                    go_ret
                    exact ⟨by first | rfl | (simp; done) | (simp [*]; done), by repeat (first | exact Drawn0.refl _ | apply Drawn0.step)⟩
                  · rw [if_neg c17] at H
                    have c17b0 : decide (0 ≤ a1) = false := decide_eq_false c17
                    clear c17
                    obtain rfl := Option.some.inj H
                    go_wp2
                    go_ret
                    exact ⟨by first | rfl | (simp; done) | (simp [*]; done), by repeat (first | exact Drawn0.refl _ | apply Drawn0.step)⟩
                · rw [if_neg c16] at H
                  have c16b0 : (a0 == 4) = false := beq_eq_false_iff_ne.mpr c16
                  have c16b1 : (a0 != 4) = true := bne_iff_ne.mpr c16
                  by_cases c18 : a0 = 9
                  · rw [if_pos c18] at H
                    have c18b0 : (a0 == 9) = true := beq_iff_eq.mpr c18
                    have c18b1 : (a0 != 9) = false := bne_eq_false_iff_eq.mpr c18
                    clear c18
                    by_cases c19 : a1 ≥ 27
                    · rw [if_pos c19] at H
                      have c19b0 : decide (27 ≤ a1) = true := decide_eq_true c19
                      clear c19
                      obtain rfl := Option.some.inj H
                      go_wp2
                      go_ret
                      exact ⟨by first | rfl | (simp; done) | (simp [*]; done), by repeat (first | exact Drawn0.refl _ | apply Drawn0.step)⟩
                    · rw [if_neg c19] at H
                      have c19b0 : decide (27 ≤ a1) = false := decide_eq_false c19
                      clear c19
                      obtain rfl := Option.some.inj H
                      go_wp2
                      go_ret
                      exact ⟨by first | rfl | (simp; done) | (simp [*]; done), by repeat (first | exact Drawn0.refl _ | apply Drawn0.step)⟩
                  · rw [if_neg c18] at H
                    have c18b0 : (a0 == 9) = false := beq_eq_false_iff_ne.mpr c18
                    have c18b1 : (a0 != 9) = true := bne_iff_ne.mpr c18
                    obtain rfl := Option.some.inj H
                    go_wp2
                    go_ret
                    exact ⟨by first | rfl | (simp; done) | (simp [*]; done), by repeat (first | exact Drawn0.refl _ | apply Drawn0.step)⟩


/-! ### bulwarkref05_fields: function 102 -/
mutual
def bulwarkref05_fields.j0 : Nat → Bool → Int → ByteArray → Int → Int → Int → Int → Int → Int → Int → Int → Int → Option (Bool)
  | 0, _, _, _, _, _, _, _, _, _, _, _, _ => none
  | k + 1, x25, x183000, x183001, x183002, x183003, x183004, x183005, x184000, x184001, x184002, x184003, x184004 => if x25 = true then (some false) else (if x183002 = 0 then (bulwarkref05_fields.j1 k x183002 (x183002 == 0) x184000 x184001 x184002 x184003 x184004) else (bulwarkref05_fields.j1 k x183002 (x183002 == 1) x184000 x184001 x184002 x184003 x184004))
def bulwarkref05_fields.j1 : Nat → Int → Bool → Int → Int → Int → Int → Int → Option (Bool)
  | 0, _, _, _, _, _, _, _ => none
  | k + 1, x27, x28, x184000, x184001, x184002, x184003, x184004 => if x28 = true then (if x184002 = 0 then (some (x184003 == 0)) else (some false)) else (if x27 = 2 then (bulwarkref05_fields.j2 k x27 (x27 == 2) x184000 x184001 x184002 x184003 x184004) else (if x27 = 3 then (bulwarkref05_fields.j2 k x27 (x27 == 3) x184000 x184001 x184002 x184003 x184004) else (if x27 = 4 then (bulwarkref05_fields.j2 k x27 (x27 == 4) x184000 x184001 x184002 x184003 x184004) else (if x27 = 8 then (bulwarkref05_fields.j2 k x27 (x27 == 8) x184000 x184001 x184002 x184003 x184004) else (bulwarkref05_fields.j2 k x27 (x27 == 9) x184000 x184001 x184002 x184003 x184004)))))
def bulwarkref05_fields.j2 : Nat → Int → Bool → Int → Int → Int → Int → Int → Option (Bool)
  | 0, _, _, _, _, _, _, _ => none
  | k + 1, x27, x39, x184000, x184001, x184002, x184003, x184004 => if x39 = true then (some (x184003 == 0)) else (if x27 = 5 then (bulwarkref05_fields.j3 k x27 (x27 == 5) x184000 x184001 x184002 x184003 x184004) else (bulwarkref05_fields.j3 k x27 (x27 == 6) x184000 x184001 x184002 x184003 x184004))
def bulwarkref05_fields.j3 : Nat → Int → Bool → Int → Int → Int → Int → Int → Option (Bool)
  | 0, _, _, _, _, _, _, _ => none
  | k + 1, x27, x48, x184000, x184001, x184002, x184003, x184004 => if x48 = true then (some (x184001 == 0)) else (if x27 = 10 then (if x184001 = 0 then (if x184002 = 0 then (some (x184003 == 0)) else (some false)) else (some false)) else (some true))
end
def bulwarkref05_fields.f (k : Nat) (a0_0 : Int) (a0_1 : ByteArray) (a0_2 : Int) (a0_3 : Int) (a0_4 : Int) (a0_5 : Int) (a1_0 : Int) (a1_1 : Int) (a1_2 : Int) (a1_3 : Int) (a1_4 : Int) : Option (Bool) := if a1_1 > 15 then (bulwarkref05_fields.j0 k true a0_0 a0_1 a0_2 a0_3 a0_4 a0_5 a1_0 a1_1 a1_2 a1_3 a1_4) else (if a1_2 > 15 then (bulwarkref05_fields.j0 k true a0_0 a0_1 a0_2 a0_3 a0_4 a0_5 a1_0 a1_1 a1_2 a1_3 a1_4) else (if a1_3 > 15 then (bulwarkref05_fields.j0 k true a0_0 a0_1 a0_2 a0_3 a0_4 a0_5 a1_0 a1_1 a1_2 a1_3 a1_4) else ((bulwarkref05_imm.f k a0_2 a1_4).bind fun t184 => (bulwarkref05_fields.j0 k (!t184) a0_0 a0_1 a0_2 a0_3 a0_4 a0_5 a1_0 a1_1 a1_2 a1_3 a1_4))))
theorem bulwarkref05_fields.mono_l : ∀ k, (∀ y0 y1 y2 y3 y4 y5 y6 y7 y8 y9 y10 y11, LeO (bulwarkref05_fields.j0 k y0 y1 y2 y3 y4 y5 y6 y7 y8 y9 y10 y11) (bulwarkref05_fields.j0 (k + 1) y0 y1 y2 y3 y4 y5 y6 y7 y8 y9 y10 y11)) ∧ (∀ y0 y1 y2 y3 y4 y5 y6, LeO (bulwarkref05_fields.j1 k y0 y1 y2 y3 y4 y5 y6) (bulwarkref05_fields.j1 (k + 1) y0 y1 y2 y3 y4 y5 y6)) ∧ (∀ y0 y1 y2 y3 y4 y5 y6, LeO (bulwarkref05_fields.j2 k y0 y1 y2 y3 y4 y5 y6) (bulwarkref05_fields.j2 (k + 1) y0 y1 y2 y3 y4 y5 y6)) ∧ (∀ y0 y1 y2 y3 y4 y5 y6, LeO (bulwarkref05_fields.j3 k y0 y1 y2 y3 y4 y5 y6) (bulwarkref05_fields.j3 (k + 1) y0 y1 y2 y3 y4 y5 y6))
  | 0 => ⟨fun _ _ _ _ _ _ _ _ _ _ _ _ r h => by simp [bulwarkref05_fields.j0] at h, fun _ _ _ _ _ _ _ r h => by simp [bulwarkref05_fields.j1] at h, fun _ _ _ _ _ _ _ r h => by simp [bulwarkref05_fields.j2] at h, fun _ _ _ _ _ _ _ r h => by simp [bulwarkref05_fields.j3] at h⟩
  | k + 1 => by
    obtain ⟨ih0, ih1, ih2, ih3⟩ := bulwarkref05_fields.mono_l k
    refine ⟨?_, ?_, ?_, ?_⟩
    · intro y0 y1 y2 y3 y4 y5 y6 y7 y8 y9 y10 y11
      unfold bulwarkref05_fields.j0
      repeat' first
      | (with_reducible exact ih0 _ _ _ _ _ _ _ _ _ _ _ _)
      | (with_reducible exact ih1 _ _ _ _ _ _ _)
      | (with_reducible exact ih2 _ _ _ _ _ _ _)
      | (with_reducible exact ih3 _ _ _ _ _ _ _)
      | (with_reducible exact bulwarkref05_imm.mono _ _ _)
      | (with_reducible exact LeO.refl _)
      | (with_reducible exact LeO.none _)
      | (with_reducible refine LeO.ite ?_ ?_)
      | (with_reducible refine LeO.bind ?_ (fun _ => ?_))
      | exact ih0 _ _ _ _ _ _ _ _ _ _ _ _
      | exact ih1 _ _ _ _ _ _ _
      | exact ih2 _ _ _ _ _ _ _
      | exact ih3 _ _ _ _ _ _ _
      | exact bulwarkref05_imm.mono _ _ _
      | exact LeO.none _
      | refine LeO.ite ?_ ?_
      | refine LeO.bind ?_ (fun _ => ?_)
    · intro y0 y1 y2 y3 y4 y5 y6
      unfold bulwarkref05_fields.j1
      repeat' first
      | (with_reducible exact ih0 _ _ _ _ _ _ _ _ _ _ _ _)
      | (with_reducible exact ih1 _ _ _ _ _ _ _)
      | (with_reducible exact ih2 _ _ _ _ _ _ _)
      | (with_reducible exact ih3 _ _ _ _ _ _ _)
      | (with_reducible exact bulwarkref05_imm.mono _ _ _)
      | (with_reducible exact LeO.refl _)
      | (with_reducible exact LeO.none _)
      | (with_reducible refine LeO.ite ?_ ?_)
      | (with_reducible refine LeO.bind ?_ (fun _ => ?_))
      | exact ih0 _ _ _ _ _ _ _ _ _ _ _ _
      | exact ih1 _ _ _ _ _ _ _
      | exact ih2 _ _ _ _ _ _ _
      | exact ih3 _ _ _ _ _ _ _
      | exact bulwarkref05_imm.mono _ _ _
      | exact LeO.none _
      | refine LeO.ite ?_ ?_
      | refine LeO.bind ?_ (fun _ => ?_)
    · intro y0 y1 y2 y3 y4 y5 y6
      unfold bulwarkref05_fields.j2
      repeat' first
      | (with_reducible exact ih0 _ _ _ _ _ _ _ _ _ _ _ _)
      | (with_reducible exact ih1 _ _ _ _ _ _ _)
      | (with_reducible exact ih2 _ _ _ _ _ _ _)
      | (with_reducible exact ih3 _ _ _ _ _ _ _)
      | (with_reducible exact bulwarkref05_imm.mono _ _ _)
      | (with_reducible exact LeO.refl _)
      | (with_reducible exact LeO.none _)
      | (with_reducible refine LeO.ite ?_ ?_)
      | (with_reducible refine LeO.bind ?_ (fun _ => ?_))
      | exact ih0 _ _ _ _ _ _ _ _ _ _ _ _
      | exact ih1 _ _ _ _ _ _ _
      | exact ih2 _ _ _ _ _ _ _
      | exact ih3 _ _ _ _ _ _ _
      | exact bulwarkref05_imm.mono _ _ _
      | exact LeO.none _
      | refine LeO.ite ?_ ?_
      | refine LeO.bind ?_ (fun _ => ?_)
    · intro y0 y1 y2 y3 y4 y5 y6
      unfold bulwarkref05_fields.j3
      repeat' first
      | (with_reducible exact ih0 _ _ _ _ _ _ _ _ _ _ _ _)
      | (with_reducible exact ih1 _ _ _ _ _ _ _)
      | (with_reducible exact ih2 _ _ _ _ _ _ _)
      | (with_reducible exact ih3 _ _ _ _ _ _ _)
      | (with_reducible exact bulwarkref05_imm.mono _ _ _)
      | (with_reducible exact LeO.refl _)
      | (with_reducible exact LeO.none _)
      | (with_reducible refine LeO.ite ?_ ?_)
      | (with_reducible refine LeO.bind ?_ (fun _ => ?_))
      | exact ih0 _ _ _ _ _ _ _ _ _ _ _ _
      | exact ih1 _ _ _ _ _ _ _
      | exact ih2 _ _ _ _ _ _ _
      | exact ih3 _ _ _ _ _ _ _
      | exact bulwarkref05_imm.mono _ _ _
      | exact LeO.none _
      | refine LeO.ite ?_ ?_
      | refine LeO.bind ?_ (fun _ => ?_)
theorem bulwarkref05_fields.mono : ∀ a0 a1 a2 a3 a4 a5 a6 a7 a8 a9 a10 k, LeO (bulwarkref05_fields.f k a0 a1 a2 a3 a4 a5 a6 a7 a8 a9 a10) (bulwarkref05_fields.f (k + 1) a0 a1 a2 a3 a4 a5 a6 a7 a8 a9 a10) := by
  intro a0 a1 a2 a3 a4 a5 a6 a7 a8 a9 a10 k
  obtain ⟨ih0, ih1, ih2, ih3⟩ := bulwarkref05_fields.mono_l k
  unfold bulwarkref05_fields.f
  repeat' first
      | (with_reducible exact ih0 _ _ _ _ _ _ _ _ _ _ _ _)
      | (with_reducible exact ih1 _ _ _ _ _ _ _)
      | (with_reducible exact ih2 _ _ _ _ _ _ _)
      | (with_reducible exact ih3 _ _ _ _ _ _ _)
      | (with_reducible exact bulwarkref05_imm.mono _ _ _)
      | (with_reducible exact LeO.refl _)
      | (with_reducible exact LeO.none _)
      | (with_reducible refine LeO.ite ?_ ?_)
      | (with_reducible refine LeO.bind ?_ (fun _ => ?_))
      | exact ih0 _ _ _ _ _ _ _ _ _ _ _ _
      | exact ih1 _ _ _ _ _ _ _
      | exact ih2 _ _ _ _ _ _ _
      | exact ih3 _ _ _ _ _ _ _
      | exact bulwarkref05_imm.mono _ _ _
      | exact LeO.none _
      | refine LeO.ite ?_ ?_
      | refine LeO.bind ?_ (fun _ => ?_)
set_option maxHeartbeats 8000000 in
set_option maxRecDepth 100000 in
theorem bulwarkref05_fields.calls (k : Nat) (a0_0 : Int) (a0_1 : ByteArray) (a0_2 : Int) (a0_3 : Int) (a0_4 : Int) (a0_5 : Int) (a1_0 : Int) (a1_1 : Int) (a1_2 : Int) (a1_3 : Int) (a1_4 : Int) (r : Bool) (w : World) (h : bulwarkref05_fields.f k a0_0 a0_1 a0_2 a0_3 a0_4 a0_5 a1_0 a1_1 a1_2 a1_3 a1_4 = some r) :
    Calls Tryz.prog 102 #[.agg #[.int .u8 a0_0, .string a0_1, .int .i64 a0_2, .int .u32 a0_3, .int .u32 a0_4, .int .u32 a0_5], .agg #[.int .u8 a1_0, .int .u8 a1_1, .int .u8 a1_2, .int .u8 a1_3, .int .i32 a1_4]] w fun e w' => e = .returned (.bool r) ∧ Below w.heap.size w w' := by
  have hu119 := Tryz.underlying119
  have hu63 := Tryz.underlying63
  have HB := Aside0.mk (Below.refl w.heap.size w)
  have H : (if a1_1 > 15 then (bulwarkref05_fields.j0 k true a0_0 a0_1 a0_2 a0_3 a0_4 a0_5 a1_0 a1_1 a1_2 a1_3 a1_4) else (if a1_2 > 15 then (bulwarkref05_fields.j0 k true a0_0 a0_1 a0_2 a0_3 a0_4 a0_5 a1_0 a1_1 a1_2 a1_3 a1_4) else (if a1_3 > 15 then (bulwarkref05_fields.j0 k true a0_0 a0_1 a0_2 a0_3 a0_4 a0_5 a1_0 a1_1 a1_2 a1_3 a1_4) else ((bulwarkref05_imm.f k a0_2 a1_4).bind fun t184 => (bulwarkref05_fields.j0 k (!t184) a0_0 a0_1 a0_2 a0_3 a0_4 a0_5 a1_0 a1_1 a1_2 a1_3 a1_4))))) = some r := h
  clear h
  have HC3 := Aside0.mk H
  clear H
  go_enter Tryz.func102, Tryz.ntmps102
  go_upto_region 1 with (first | ((with_reducible refine gate_dst (N := 2) rfl ?_); refine box_event ?hg (N := 2) ?hd (cs := #[.int .u8 a0_0, .string a0_1, .int .i64 a0_2, .int .u32 a0_3, .int .u32 a0_4, .int .u32 a0_5]) (t := 119) ?hr ?_; (case hd => rfl); (case hg => rfl); (case hr => first | (go_simp; done) | (go_simp; rfl)); intro gb182 hg w4 hbox hb; have n0_ := Aside0.mk (below_step (by repeat (first | (with_reducible first | exact HB.out | apply below_alloc | apply pw_below_drewN | apply below_drew1) | exact HB.out)) hb); have n1_ := Aside0.mk (hbox); have n2_ := Aside0.mk ((by rw [hg]; exact (below_size (by repeat (first | (with_reducible first | exact HB.out | apply below_alloc | apply pw_below_drewN | apply below_drew1) | exact HB.out))) : w.heap.size ≤ gb182)); have n3_ := Aside0.mk ((by rw [hg]; exact (below_size (by repeat (first | (with_reducible first | exact HB.out | apply below_alloc | apply pw_below_drewN | apply below_drew1) | exact HB.out))) : w.heap.size ≤ gb182)); clear HB; have HB := n0_; have BK182 := n1_; have GW182 := n2_; have GE182 := n3_; clear n0_ n1_ n2_ n3_; clear hb hbox hg) | ((with_reducible refine gate_dst (N := 3) rfl ?_); refine box_event ?hg (N := 3) ?hd (cs := #[.int .u8 a1_0, .int .u8 a1_1, .int .u8 a1_2, .int .u8 a1_3, .int .i32 a1_4]) (t := 63) ?hr ?_; (case hd => rfl); (case hg => rfl); (case hr => first | (go_simp; done) | (go_simp; rfl)); intro gb183 hg w5 hbox hb; have n0_ := Aside0.mk (blk_below (g := gb182) (o := .cells #[.int .u8 a0_0, .string a0_1, .int .i64 a0_2, .int .u32 a0_3, .int .u32 a0_4, .int .u32 a0_5] 119 (0, 0)) (by (with_reducible repeat (first | refine blk_drewN ?_ _ | refine blk_drew ?_ | refine blk_alloc ?_ _)); exact BK182.out) hb); have n1_ := Aside0.mk (below_step (by repeat (first | (with_reducible first | exact HB.out | apply below_alloc | apply pw_below_drewN | apply below_drew1 | refine below_set ?_ GE182.out) | exact HB.out)) hb); have n2_ := Aside0.mk (hbox); have n3_ := Aside0.mk ((by rw [hg]; exact (below_size (by repeat (first | (with_reducible first | exact HB.out | apply below_alloc | apply pw_below_drewN | apply below_drew1 | refine below_set ?_ GE182.out) | exact HB.out))) : w.heap.size ≤ gb183)); have n4_ := Aside0.mk ((by rw [hg]; exact (below_size (by repeat (first | (with_reducible first | exact HB.out | apply below_alloc | apply pw_below_drewN | apply below_drew1 | refine below_set ?_ GE182.out) | exact HB.out))) : w.heap.size ≤ gb183)); have n5_ := Aside0.mk ((by rw [hg]; exact Nat.ne_of_lt (blk_lt (g := gb182) (o := .cells #[.int .u8 a0_0, .string a0_1, .int .i64 a0_2, .int .u32 a0_3, .int .u32 a0_4, .int .u32 a0_5] 119 (0, 0)) (by (with_reducible repeat (first | refine blk_drewN ?_ _ | refine blk_drew ?_ | refine blk_alloc ?_ _)); exact BK182.out)) : gb182 ≠ gb183)); have n6_ := Aside0.mk ((by rw [hg]; exact Nat.ne_of_gt (blk_lt (g := gb182) (o := .cells #[.int .u8 a0_0, .string a0_1, .int .i64 a0_2, .int .u32 a0_3, .int .u32 a0_4, .int .u32 a0_5] 119 (0, 0)) (by (with_reducible repeat (first | refine blk_drewN ?_ _ | refine blk_drew ?_ | refine blk_alloc ?_ _)); exact BK182.out)) : gb183 ≠ gb182)); clear BK182; clear HB; have BK182 := n0_; have HB := n1_; have BK183 := n2_; have GW183 := n3_; have GE183 := n4_; have NB182_183 := n5_; have NB183_182 := n6_; clear n0_ n1_ n2_ n3_ n4_ n5_ n6_; clear hb hbox hg))
  (try simp only [Act.put, List.setIfInBounds_toArray, List.set_cons_zero, List.set_cons_succ])
  go_cut [25] (fun v25 wc => ∃ (kq : Nat) (x25_2 : Bool), v25 = .bool x25_2 ∧ Aside0 (bulwarkref05_fields.j0 kq x25_2 a0_0 a0_1 a0_2 a0_3 a0_4 a0_5 a1_0 a1_1 a1_2 a1_3 a1_4 = some r) ∧ Aside0 (kq ≤ k) ∧ Aside0 (wc.heap[gb182]? = some (.cells #[.int .u8 a0_0, .string a0_1, .int .i64 a0_2, .int .u32 a0_3, .int .u32 a0_4, .int .u32 a0_5] 119 (0, 0))) ∧ Aside0 (wc.heap[gb183]? = some (.cells #[.int .u8 a1_0, .int .u8 a1_1, .int .u8 a1_2, .int .u8 a1_3, .int .i32 a1_4] 63 (0, 0))) ∧ Aside0 (Below w.heap.size w wc))
  case first =>
    have H := HC3.out
    clear HC3
    by_cases c6 : a1_1 > 15
    · rw [if_pos c6] at H
      have c6b0 : decide (15 < a1_1) = true := decide_eq_true c6
      clear c6
      (first | rw [c6b0] | (simp only [i64_w, i32_w]; rw [c6b0]) | skip)
      have H' := Aside0.mk H
      clear H
      have hnb7 := NB183_182.out
      have hnc7 := NB182_183.out
      have hcz8_0 : w5.cell? ⟨gb183, 0, none⟩ = some (.int .u8 a1_0) := (blk_cell BK183.out 0).trans rfl
      have hcz8_1 : w5.cell? ⟨gb183, 1, none⟩ = some (.int .u8 a1_1) := (blk_cell BK183.out 1).trans rfl
      have hcz8_2 : w5.cell? ⟨gb183, 2, none⟩ = some (.int .u8 a1_2) := (blk_cell BK183.out 2).trans rfl
      have hcz8_3 : w5.cell? ⟨gb183, 3, none⟩ = some (.int .u8 a1_3) := (blk_cell BK183.out 3).trans rfl
      have hcz8_4 : w5.cell? ⟨gb183, 4, none⟩ = some (.int .i32 a1_4) := (blk_cell BK183.out 4).trans rfl
      have hfz8_0 := blk_frozen BK183.out 0
      have hfz8_1 := blk_frozen BK183.out 1
      have hfz8_2 := blk_frozen BK183.out 2
      have hfz8_3 := blk_frozen BK183.out 3
      have hfz8_4 := blk_frozen BK183.out 4
      go_wp2
      go_meet
      case rel => exact ⟨_, (true), (by first | rfl | (simp; done) | (simp [*]; done)), H', ⟨by first | omega | exact Nat.le_refl _⟩, ⟨by (with_reducible repeat (first | refine blk_drewN ?_ _ | refine blk_drew ?_ | refine blk_alloc ?_ _)); exact BK182.out⟩, ⟨by (with_reducible repeat (first | refine blk_drewN ?_ _ | refine blk_drew ?_ | refine blk_alloc ?_ _)); exact BK183.out⟩, ⟨by repeat (first | (with_reducible first | exact HB.out | apply below_alloc | apply pw_below_drewN | apply below_drew1 | refine below_set ?_ GE182.out | refine below_set ?_ GE183.out) | exact HB.out)⟩⟩
    · rw [if_neg c6] at H
      have c6b0 : decide (15 < a1_1) = false := decide_eq_false c6
      clear c6
      (first | rw [c6b0] | (simp only [i64_w, i32_w]; rw [c6b0]) | skip)
      by_cases c9 : a1_2 > 15
      · rw [if_pos c9] at H
        have c9b0 : decide (15 < a1_2) = true := decide_eq_true c9
        clear c9
        have H' := Aside0.mk H
        clear H
        have hnb10 := NB183_182.out
        have hnc10 := NB182_183.out
        have hcz11_0 : w5.cell? ⟨gb183, 0, none⟩ = some (.int .u8 a1_0) := (blk_cell BK183.out 0).trans rfl
        have hcz11_1 : w5.cell? ⟨gb183, 1, none⟩ = some (.int .u8 a1_1) := (blk_cell BK183.out 1).trans rfl
        have hcz11_2 : w5.cell? ⟨gb183, 2, none⟩ = some (.int .u8 a1_2) := (blk_cell BK183.out 2).trans rfl
        have hcz11_3 : w5.cell? ⟨gb183, 3, none⟩ = some (.int .u8 a1_3) := (blk_cell BK183.out 3).trans rfl
        have hcz11_4 : w5.cell? ⟨gb183, 4, none⟩ = some (.int .i32 a1_4) := (blk_cell BK183.out 4).trans rfl
        have hfz11_0 := blk_frozen BK183.out 0
        have hfz11_1 := blk_frozen BK183.out 1
        have hfz11_2 := blk_frozen BK183.out 2
        have hfz11_3 := blk_frozen BK183.out 3
        have hfz11_4 := blk_frozen BK183.out 4
        go_wp2
        go_meet
        case rel => exact ⟨_, (true), (by first | rfl | (simp; done) | (simp [*]; done)), H', ⟨by first | omega | exact Nat.le_refl _⟩, ⟨by (with_reducible repeat (first | refine blk_drewN ?_ _ | refine blk_drew ?_ | refine blk_alloc ?_ _)); exact BK182.out⟩, ⟨by (with_reducible repeat (first | refine blk_drewN ?_ _ | refine blk_drew ?_ | refine blk_alloc ?_ _)); exact BK183.out⟩, ⟨by repeat (first | (with_reducible first | exact HB.out | apply below_alloc | apply pw_below_drewN | apply below_drew1 | refine below_set ?_ GE182.out | refine below_set ?_ GE183.out) | exact HB.out)⟩⟩
      · rw [if_neg c9] at H
        have c9b0 : decide (15 < a1_2) = false := decide_eq_false c9
        clear c9
        by_cases c12 : a1_3 > 15
        · rw [if_pos c12] at H
          have c12b0 : decide (15 < a1_3) = true := decide_eq_true c12
          clear c12
          have H' := Aside0.mk H
          clear H
          have hnb13 := NB183_182.out
          have hnc13 := NB182_183.out
          have hcz14_0 : w5.cell? ⟨gb183, 0, none⟩ = some (.int .u8 a1_0) := (blk_cell BK183.out 0).trans rfl
          have hcz14_1 : w5.cell? ⟨gb183, 1, none⟩ = some (.int .u8 a1_1) := (blk_cell BK183.out 1).trans rfl
          have hcz14_2 : w5.cell? ⟨gb183, 2, none⟩ = some (.int .u8 a1_2) := (blk_cell BK183.out 2).trans rfl
          have hcz14_3 : w5.cell? ⟨gb183, 3, none⟩ = some (.int .u8 a1_3) := (blk_cell BK183.out 3).trans rfl
          have hcz14_4 : w5.cell? ⟨gb183, 4, none⟩ = some (.int .i32 a1_4) := (blk_cell BK183.out 4).trans rfl
          have hfz14_0 := blk_frozen BK183.out 0
          have hfz14_1 := blk_frozen BK183.out 1
          have hfz14_2 := blk_frozen BK183.out 2
          have hfz14_3 := blk_frozen BK183.out 3
          have hfz14_4 := blk_frozen BK183.out 4
          go_wp2
          go_meet
          case rel => exact ⟨_, (true), (by first | rfl | (simp; done) | (simp [*]; done)), H', ⟨by first | omega | exact Nat.le_refl _⟩, ⟨by (with_reducible repeat (first | refine blk_drewN ?_ _ | refine blk_drew ?_ | refine blk_alloc ?_ _)); exact BK182.out⟩, ⟨by (with_reducible repeat (first | refine blk_drewN ?_ _ | refine blk_drew ?_ | refine blk_alloc ?_ _)); exact BK183.out⟩, ⟨by repeat (first | (with_reducible first | exact HB.out | apply below_alloc | apply pw_below_drewN | apply below_drew1 | refine below_set ?_ GE182.out | refine below_set ?_ GE183.out) | exact HB.out)⟩⟩
        · rw [if_neg c12] at H
          have c12b0 : decide (15 < a1_3) = false := decide_eq_false c12
          clear c12
          replace H := Option.bind_eq_some_iff.mp H
          obtain ⟨t184, A150, H⟩ := H
          replace H : (bulwarkref05_fields.j0 k (!t184) a0_0 a0_1 a0_2 a0_3 a0_4 a0_5 a1_0 a1_1 a1_2 a1_3 a1_4) = some r := H
          have A15 := Aside0.mk A150
          clear A150
          have H' := Aside0.mk H
          clear H
          have hnb16 := NB183_182.out
          have hnc16 := NB182_183.out
          have hcz17_0 : w5.cell? ⟨gb183, 0, none⟩ = some (.int .u8 a1_0) := (blk_cell BK183.out 0).trans rfl
          have hcz17_1 : w5.cell? ⟨gb183, 1, none⟩ = some (.int .u8 a1_1) := (blk_cell BK183.out 1).trans rfl
          have hcz17_2 : w5.cell? ⟨gb183, 2, none⟩ = some (.int .u8 a1_2) := (blk_cell BK183.out 2).trans rfl
          have hcz17_3 : w5.cell? ⟨gb183, 3, none⟩ = some (.int .u8 a1_3) := (blk_cell BK183.out 3).trans rfl
          have hcz17_4 : w5.cell? ⟨gb183, 4, none⟩ = some (.int .i32 a1_4) := (blk_cell BK183.out 4).trans rfl
          have hfz17_0 := blk_frozen BK183.out 0
          have hfz17_1 := blk_frozen BK183.out 1
          have hfz17_2 := blk_frozen BK183.out 2
          have hfz17_3 := blk_frozen BK183.out 3
          have hfz17_4 := blk_frozen BK183.out 4
          have hcz18_0 : w5.cell? ⟨gb182, 0, none⟩ = some (.int .u8 a0_0) := (blk_cell BK182.out 0).trans rfl
          have hcz18_1 : w5.cell? ⟨gb182, 1, none⟩ = some (.string a0_1) := (blk_cell BK182.out 1).trans rfl
          have hcz18_2 : w5.cell? ⟨gb182, 2, none⟩ = some (.int .i64 a0_2) := (blk_cell BK182.out 2).trans rfl
          have hcz18_3 : w5.cell? ⟨gb182, 3, none⟩ = some (.int .u32 a0_3) := (blk_cell BK182.out 3).trans rfl
          have hcz18_4 : w5.cell? ⟨gb182, 4, none⟩ = some (.int .u32 a0_4) := (blk_cell BK182.out 4).trans rfl
          have hcz18_5 : w5.cell? ⟨gb182, 5, none⟩ = some (.int .u32 a0_5) := (blk_cell BK182.out 5).trans rfl
          have hfz18_0 := blk_frozen BK182.out 0
          have hfz18_1 := blk_frozen BK182.out 1
          have hfz18_2 := blk_frozen BK182.out 2
          have hfz18_3 := blk_frozen BK182.out 3
          have hfz18_4 := blk_frozen BK182.out 4
          have hfz18_5 := blk_frozen BK182.out 5
          go_wp2_with (first | (go_at_call 141; (with_reducible refine (bulwarkref05_imm.calls k a0_2 a1_4 t184 _ A15.out).mono ?_); rintro e w' ⟨rfl, ⟨nd, rfl⟩⟩))
          go_meet
          case rel => exact ⟨_, (!t184), (by first | rfl | (simp; done) | (simp [*]; done)), H', ⟨by first | omega | exact Nat.le_refl _⟩, ⟨by (with_reducible repeat (first | refine blk_drewN ?_ _ | refine blk_drew ?_ | refine blk_alloc ?_ _)); exact BK182.out⟩, ⟨by (with_reducible repeat (first | refine blk_drewN ?_ _ | refine blk_drew ?_ | refine blk_alloc ?_ _)); exact BK183.out⟩, ⟨by repeat (first | (with_reducible first | exact HB.out | apply below_alloc | apply pw_below_drewN | apply below_drew1 | refine below_set ?_ GE182.out | refine below_set ?_ GE183.out) | exact HB.out)⟩⟩
  case rest =>
    clear HC3
    try clear c1
    try clear p2
    try clear c6
    try clear c6b0
    try clear c7
    try clear c9
    try clear c9b0
    try clear c10
    try clear c12
    try clear c12b0
    try clear c13
    try clear c16
    try clear hcz11_0
    try clear hcz11_1
    try clear hcz11_2
    try clear hcz11_3
    try clear hcz11_4
    try clear hcz14_0
    try clear hcz14_1
    try clear hcz14_2
    try clear hcz14_3
    try clear hcz14_4
    try clear hcz17_0
    try clear hcz17_1
    try clear hcz17_2
    try clear hcz17_3
    try clear hcz17_4
    try clear hcz18_0
    try clear hcz18_1
    try clear hcz18_2
    try clear hcz18_3
    try clear hcz18_4
    try clear hcz18_5
    try clear hcz8_0
    try clear hcz8_1
    try clear hcz8_2
    try clear hcz8_3
    try clear hcz8_4
    try clear hfz11_0
    try clear hfz11_1
    try clear hfz11_2
    try clear hfz11_3
    try clear hfz11_4
    try clear hfz14_0
    try clear hfz14_1
    try clear hfz14_2
    try clear hfz14_3
    try clear hfz14_4
    try clear hfz17_0
    try clear hfz17_1
    try clear hfz17_2
    try clear hfz17_3
    try clear hfz17_4
    try clear hfz18_0
    try clear hfz18_1
    try clear hfz18_2
    try clear hfz18_3
    try clear hfz18_4
    try clear hfz18_5
    try clear hfz8_0
    try clear hfz8_1
    try clear hfz8_2
    try clear hfz8_3
    try clear hfz8_4
    obtain ⟨kq, x25_2, rfl, HA, HJ2, BK182, BK183, HB⟩ := hcut
    cases kq with
    | zero => exact absurd HA.out (by simp [bulwarkref05_fields.j0])
    | succ kj2 =>
      have H := HA.out
      clear HA
      simp only [bulwarkref05_fields.j0] at H
      by_cases c19 : x25_2 = true
      · subst c19
        have H1 : (some false) = some r := by rw [if_pos rfl] at H; exact H
        clear H
        have H := H1
        clear H1
        obtain rfl := Option.some.inj H
        go_wp2
        go_ret
        exact ⟨by first | rfl | (simp [errW_none, errW_some] <;> rfl) | (simp [*, errW_none, errW_some] <;> rfl), by repeat (first | (with_reducible first | exact HB.out | apply below_alloc | apply pw_below_drewN | apply below_drew1 | refine below_set ?_ GE182.out | refine below_set ?_ GE183.out) | exact HB.out)⟩
      · replace c19 := Bool.eq_false_iff.mpr c19
        subst c19
        have H1 : (if a0_2 = 0 then (bulwarkref05_fields.j1 kj2 a0_2 (a0_2 == 0) a1_0 a1_1 a1_2 a1_3 a1_4) else (bulwarkref05_fields.j1 kj2 a0_2 (a0_2 == 1) a1_0 a1_1 a1_2 a1_3 a1_4)) = some r := by rw [if_neg (show ¬ (false = true) by decide)] at H; exact H
        clear H
        have H := H1
        clear H1
        have HC20 := Aside0.mk H
        clear H
        have hnb21 := NB182_183.out
        have hnc21 := NB183_182.out
        have hcz22_0 : wc.cell? ⟨gb182, 0, none⟩ = some (.int .u8 a0_0) := (blk_cell BK182.out 0).trans rfl
        have hcz22_1 : wc.cell? ⟨gb182, 1, none⟩ = some (.string a0_1) := (blk_cell BK182.out 1).trans rfl
        have hcz22_2 : wc.cell? ⟨gb182, 2, none⟩ = some (.int .i64 a0_2) := (blk_cell BK182.out 2).trans rfl
        have hcz22_3 : wc.cell? ⟨gb182, 3, none⟩ = some (.int .u32 a0_3) := (blk_cell BK182.out 3).trans rfl
        have hcz22_4 : wc.cell? ⟨gb182, 4, none⟩ = some (.int .u32 a0_4) := (blk_cell BK182.out 4).trans rfl
        have hcz22_5 : wc.cell? ⟨gb182, 5, none⟩ = some (.int .u32 a0_5) := (blk_cell BK182.out 5).trans rfl
        have hfz22_0 := blk_frozen BK182.out 0
        have hfz22_1 := blk_frozen BK182.out 1
        have hfz22_2 := blk_frozen BK182.out 2
        have hfz22_3 := blk_frozen BK182.out 3
        have hfz22_4 := blk_frozen BK182.out 4
        have hfz22_5 := blk_frozen BK182.out 5
        go_upto_if 28 with (fail)
        go_cut [28] (fun v28 wc => ∃ (kq : Nat) (x28_19 : Bool), v28 = .bool x28_19 ∧ Aside0 (bulwarkref05_fields.j1 kq a0_2 x28_19 a1_0 a1_1 a1_2 a1_3 a1_4 = some r) ∧ Aside0 (kq ≤ kj2) ∧ Aside0 (wc.heap[gb182]? = some (.cells #[.int .u8 a0_0, .string a0_1, .int .i64 a0_2, .int .u32 a0_3, .int .u32 a0_4, .int .u32 a0_5] 119 (0, 0))) ∧ Aside0 (wc.heap[gb183]? = some (.cells #[.int .u8 a1_0, .int .u8 a1_1, .int .u8 a1_2, .int .u8 a1_3, .int .i32 a1_4] 63 (0, 0))) ∧ Aside0 (Below w.heap.size w wc))
        case first =>
          have H := HC20.out
          clear HC20
          by_cases c23 : a0_2 = 0
          · rw [if_pos c23] at H
            have c23b0 : (a0_2 == 0) = true := beq_iff_eq.mpr c23
            have c23b1 : (a0_2 != 0) = false := bne_eq_false_iff_eq.mpr c23
            clear c23
            (first | rw [c23b0] | (simp only [i64_w, i32_w]; rw [c23b0]) | skip)
            have H' := Aside0.mk H
            clear H
            go_wp2
            go_meet
            case rel => exact ⟨_, ((a0_2 == 0)), (by first | rfl | (simp; done) | (simp [*]; done)), H', ⟨by have := HJ2.out; first | omega | exact Nat.le_refl _⟩, ⟨by (with_reducible repeat (first | refine blk_drewN ?_ _ | refine blk_drew ?_ | refine blk_alloc ?_ _)); exact BK182.out⟩, ⟨by (with_reducible repeat (first | refine blk_drewN ?_ _ | refine blk_drew ?_ | refine blk_alloc ?_ _)); exact BK183.out⟩, ⟨by repeat (first | (with_reducible first | exact HB.out | apply below_alloc | apply pw_below_drewN | apply below_drew1 | refine below_set ?_ GE182.out | refine below_set ?_ GE183.out) | exact HB.out)⟩⟩
          · rw [if_neg c23] at H
            have c23b0 : (a0_2 == 0) = false := beq_eq_false_iff_ne.mpr c23
            have c23b1 : (a0_2 != 0) = true := bne_iff_ne.mpr c23
            (first | rw [c23b0] | (simp only [i64_w, i32_w]; rw [c23b0]) | skip)
            have H' := Aside0.mk H
            clear H
            go_wp2
            go_meet
            case rel => exact ⟨_, ((a0_2 == 1)), (by first | rfl | (simp; done) | (simp [*]; done)), H', ⟨by have := HJ2.out; first | omega | exact Nat.le_refl _⟩, ⟨by (with_reducible repeat (first | refine blk_drewN ?_ _ | refine blk_drew ?_ | refine blk_alloc ?_ _)); exact BK182.out⟩, ⟨by (with_reducible repeat (first | refine blk_drewN ?_ _ | refine blk_drew ?_ | refine blk_alloc ?_ _)); exact BK183.out⟩, ⟨by repeat (first | (with_reducible first | exact HB.out | apply below_alloc | apply pw_below_drewN | apply below_drew1 | refine below_set ?_ GE182.out | refine below_set ?_ GE183.out) | exact HB.out)⟩⟩
        case rest =>
          clear HC20
          try clear c1
          try clear c2
          try clear p2
          try clear c6
          try clear c6b0
          try clear c7
          try clear c9
          try clear c9b0
          try clear c10
          try clear c12
          try clear c12b0
          try clear c13
          try clear c16
          try clear c19
          try clear c21
          try clear c23
          try clear c23b0
          try clear c23b1
          try clear hcz11_0
          try clear hcz11_1
          try clear hcz11_2
          try clear hcz11_3
          try clear hcz11_4
          try clear hcz14_0
          try clear hcz14_1
          try clear hcz14_2
          try clear hcz14_3
          try clear hcz14_4
          try clear hcz17_0
          try clear hcz17_1
          try clear hcz17_2
          try clear hcz17_3
          try clear hcz17_4
          try clear hcz18_0
          try clear hcz18_1
          try clear hcz18_2
          try clear hcz18_3
          try clear hcz18_4
          try clear hcz18_5
          try clear hcz22_0
          try clear hcz22_1
          try clear hcz22_2
          try clear hcz22_3
          try clear hcz22_4
          try clear hcz22_5
          try clear hcz8_0
          try clear hcz8_1
          try clear hcz8_2
          try clear hcz8_3
          try clear hcz8_4
          try clear hfz11_0
          try clear hfz11_1
          try clear hfz11_2
          try clear hfz11_3
          try clear hfz11_4
          try clear hfz14_0
          try clear hfz14_1
          try clear hfz14_2
          try clear hfz14_3
          try clear hfz14_4
          try clear hfz17_0
          try clear hfz17_1
          try clear hfz17_2
          try clear hfz17_3
          try clear hfz17_4
          try clear hfz18_0
          try clear hfz18_1
          try clear hfz18_2
          try clear hfz18_3
          try clear hfz18_4
          try clear hfz18_5
          try clear hfz22_0
          try clear hfz22_1
          try clear hfz22_2
          try clear hfz22_3
          try clear hfz22_4
          try clear hfz22_5
          try clear hfz8_0
          try clear hfz8_1
          try clear hfz8_2
          try clear hfz8_3
          try clear hfz8_4
          try clear p2
          obtain ⟨kq, x28_19, rfl, HA, HJ19, BK182, BK183, HB⟩ := hcut
          cases kq with
          | zero => exact absurd HA.out (by simp [bulwarkref05_fields.j1])
          | succ kj19 =>
            have H := HA.out
            clear HA
            simp only [bulwarkref05_fields.j1] at H
            by_cases c24 : x28_19 = true
            · subst c24
              have H1 : (if a1_2 = 0 then (some (a1_3 == 0)) else (some false)) = some r := by rw [if_pos rfl] at H; exact H
              clear H
              have H := H1
              clear H1
              by_cases c25 : a1_2 = 0
              · rw [if_pos c25] at H
                have c25b0 : (a1_2 == 0) = true := beq_iff_eq.mpr c25
                have c25b1 : (a1_2 != 0) = false := bne_eq_false_iff_eq.mpr c25
                clear c25
                obtain rfl := Option.some.inj H
                have hnb26 := NB183_182.out
                have hnc26 := NB182_183.out
                have hcz27_0 : wc.cell? ⟨gb183, 0, none⟩ = some (.int .u8 a1_0) := (blk_cell BK183.out 0).trans rfl
                have hcz27_1 : wc.cell? ⟨gb183, 1, none⟩ = some (.int .u8 a1_1) := (blk_cell BK183.out 1).trans rfl
                have hcz27_2 : wc.cell? ⟨gb183, 2, none⟩ = some (.int .u8 a1_2) := (blk_cell BK183.out 2).trans rfl
                have hcz27_3 : wc.cell? ⟨gb183, 3, none⟩ = some (.int .u8 a1_3) := (blk_cell BK183.out 3).trans rfl
                have hcz27_4 : wc.cell? ⟨gb183, 4, none⟩ = some (.int .i32 a1_4) := (blk_cell BK183.out 4).trans rfl
                have hfz27_0 := blk_frozen BK183.out 0
                have hfz27_1 := blk_frozen BK183.out 1
                have hfz27_2 := blk_frozen BK183.out 2
                have hfz27_3 := blk_frozen BK183.out 3
                have hfz27_4 := blk_frozen BK183.out 4
                go_wp2
                go_ret
                exact ⟨by first | rfl | (simp [errW_none, errW_some] <;> rfl) | (simp [*, errW_none, errW_some] <;> rfl), by repeat (first | (with_reducible first | exact HB.out | apply below_alloc | apply pw_below_drewN | apply below_drew1 | refine below_set ?_ GE182.out | refine below_set ?_ GE183.out) | exact HB.out)⟩
              · rw [if_neg c25] at H
                have c25b0 : (a1_2 == 0) = false := beq_eq_false_iff_ne.mpr c25
                have c25b1 : (a1_2 != 0) = true := bne_iff_ne.mpr c25
                obtain rfl := Option.some.inj H
                have hnb28 := NB183_182.out
                have hnc28 := NB182_183.out
                have hcz29_0 : wc.cell? ⟨gb183, 0, none⟩ = some (.int .u8 a1_0) := (blk_cell BK183.out 0).trans rfl
                have hcz29_1 : wc.cell? ⟨gb183, 1, none⟩ = some (.int .u8 a1_1) := (blk_cell BK183.out 1).trans rfl
                have hcz29_2 : wc.cell? ⟨gb183, 2, none⟩ = some (.int .u8 a1_2) := (blk_cell BK183.out 2).trans rfl
                have hcz29_3 : wc.cell? ⟨gb183, 3, none⟩ = some (.int .u8 a1_3) := (blk_cell BK183.out 3).trans rfl
                have hcz29_4 : wc.cell? ⟨gb183, 4, none⟩ = some (.int .i32 a1_4) := (blk_cell BK183.out 4).trans rfl
                have hfz29_0 := blk_frozen BK183.out 0
                have hfz29_1 := blk_frozen BK183.out 1
                have hfz29_2 := blk_frozen BK183.out 2
                have hfz29_3 := blk_frozen BK183.out 3
                have hfz29_4 := blk_frozen BK183.out 4
                go_wp2
                go_ret
                exact ⟨by first | rfl | (simp [errW_none, errW_some] <;> rfl) | (simp [*, errW_none, errW_some] <;> rfl), by repeat (first | (with_reducible first | exact HB.out | apply below_alloc | apply pw_below_drewN | apply below_drew1 | refine below_set ?_ GE182.out | refine below_set ?_ GE183.out) | exact HB.out)⟩
            · replace c24 := Bool.eq_false_iff.mpr c24
              subst c24
              have H1 : (if a0_2 = 2 then (bulwarkref05_fields.j2 kj19 a0_2 (a0_2 == 2) a1_0 a1_1 a1_2 a1_3 a1_4) else (if a0_2 = 3 then (bulwarkref05_fields.j2 kj19 a0_2 (a0_2 == 3) a1_0 a1_1 a1_2 a1_3 a1_4) else (if a0_2 = 4 then (bulwarkref05_fields.j2 kj19 a0_2 (a0_2 == 4) a1_0 a1_1 a1_2 a1_3 a1_4) else (if a0_2 = 8 then (bulwarkref05_fields.j2 kj19 a0_2 (a0_2 == 8) a1_0 a1_1 a1_2 a1_3 a1_4) else (bulwarkref05_fields.j2 kj19 a0_2 (a0_2 == 9) a1_0 a1_1 a1_2 a1_3 a1_4))))) = some r := by rw [if_neg (show ¬ (false = true) by decide)] at H; exact H
              clear H
              have H := H1
              clear H1
              have HC30 := Aside0.mk H
              clear H
              go_upto_if 39 with (fail)
              go_cut [39] (fun v39 wc => ∃ (kq : Nat) (x39_29 : Bool), v39 = .bool x39_29 ∧ Aside0 (bulwarkref05_fields.j2 kq a0_2 x39_29 a1_0 a1_1 a1_2 a1_3 a1_4 = some r) ∧ Aside0 (kq ≤ kj19) ∧ Aside0 (wc.heap[gb182]? = some (.cells #[.int .u8 a0_0, .string a0_1, .int .i64 a0_2, .int .u32 a0_3, .int .u32 a0_4, .int .u32 a0_5] 119 (0, 0))) ∧ Aside0 (wc.heap[gb183]? = some (.cells #[.int .u8 a1_0, .int .u8 a1_1, .int .u8 a1_2, .int .u8 a1_3, .int .i32 a1_4] 63 (0, 0))) ∧ Aside0 (Below w.heap.size w wc))
              case first =>
                have H := HC30.out
                clear HC30
                by_cases c31 : a0_2 = 2
                · rw [if_pos c31] at H
                  have c31b0 : (a0_2 == 2) = true := beq_iff_eq.mpr c31
                  have c31b1 : (a0_2 != 2) = false := bne_eq_false_iff_eq.mpr c31
                  clear c31
                  (first | rw [c31b0] | (simp only [i64_w, i32_w]; rw [c31b0]) | skip)
                  have H' := Aside0.mk H
                  clear H
                  go_wp2
                  go_meet
                  case rel => exact ⟨_, ((a0_2 == 2)), (by first | rfl | (simp; done) | (simp [*]; done)), H', ⟨by have := HJ2.out; have := HJ19.out; first | omega | exact Nat.le_refl _⟩, ⟨by (with_reducible repeat (first | refine blk_drewN ?_ _ | refine blk_drew ?_ | refine blk_alloc ?_ _)); exact BK182.out⟩, ⟨by (with_reducible repeat (first | refine blk_drewN ?_ _ | refine blk_drew ?_ | refine blk_alloc ?_ _)); exact BK183.out⟩, ⟨by repeat (first | (with_reducible first | exact HB.out | apply below_alloc | apply pw_below_drewN | apply below_drew1 | refine below_set ?_ GE182.out | refine below_set ?_ GE183.out) | exact HB.out)⟩⟩
                · rw [if_neg c31] at H
                  have c31b0 : (a0_2 == 2) = false := beq_eq_false_iff_ne.mpr c31
                  have c31b1 : (a0_2 != 2) = true := bne_iff_ne.mpr c31
                  (first | rw [c31b0] | (simp only [i64_w, i32_w]; rw [c31b0]) | skip)
                  by_cases c32 : a0_2 = 3
                  · rw [if_pos c32] at H
                    have c32b0 : (a0_2 == 3) = true := beq_iff_eq.mpr c32
                    have c32b1 : (a0_2 != 3) = false := bne_eq_false_iff_eq.mpr c32
                    clear c32
                    have H' := Aside0.mk H
                    clear H
                    go_wp2
                    go_meet
                    case rel => exact ⟨_, ((a0_2 == 3)), (by first | rfl | (simp; done) | (simp [*]; done)), H', ⟨by have := HJ2.out; have := HJ19.out; first | omega | exact Nat.le_refl _⟩, ⟨by (with_reducible repeat (first | refine blk_drewN ?_ _ | refine blk_drew ?_ | refine blk_alloc ?_ _)); exact BK182.out⟩, ⟨by (with_reducible repeat (first | refine blk_drewN ?_ _ | refine blk_drew ?_ | refine blk_alloc ?_ _)); exact BK183.out⟩, ⟨by repeat (first | (with_reducible first | exact HB.out | apply below_alloc | apply pw_below_drewN | apply below_drew1 | refine below_set ?_ GE182.out | refine below_set ?_ GE183.out) | exact HB.out)⟩⟩
                  · rw [if_neg c32] at H
                    have c32b0 : (a0_2 == 3) = false := beq_eq_false_iff_ne.mpr c32
                    have c32b1 : (a0_2 != 3) = true := bne_iff_ne.mpr c32
                    by_cases c33 : a0_2 = 4
                    · rw [if_pos c33] at H
                      have c33b0 : (a0_2 == 4) = true := beq_iff_eq.mpr c33
                      have c33b1 : (a0_2 != 4) = false := bne_eq_false_iff_eq.mpr c33
                      clear c33
                      have H' := Aside0.mk H
                      clear H
                      go_wp2
                      go_meet
                      case rel => exact ⟨_, ((a0_2 == 4)), (by first | rfl | (simp; done) | (simp [*]; done)), H', ⟨by have := HJ2.out; have := HJ19.out; first | omega | exact Nat.le_refl _⟩, ⟨by (with_reducible repeat (first | refine blk_drewN ?_ _ | refine blk_drew ?_ | refine blk_alloc ?_ _)); exact BK182.out⟩, ⟨by (with_reducible repeat (first | refine blk_drewN ?_ _ | refine blk_drew ?_ | refine blk_alloc ?_ _)); exact BK183.out⟩, ⟨by repeat (first | (with_reducible first | exact HB.out | apply below_alloc | apply pw_below_drewN | apply below_drew1 | refine below_set ?_ GE182.out | refine below_set ?_ GE183.out) | exact HB.out)⟩⟩
                    · rw [if_neg c33] at H
                      have c33b0 : (a0_2 == 4) = false := beq_eq_false_iff_ne.mpr c33
                      have c33b1 : (a0_2 != 4) = true := bne_iff_ne.mpr c33
                      by_cases c34 : a0_2 = 8
                      · rw [if_pos c34] at H
                        have c34b0 : (a0_2 == 8) = true := beq_iff_eq.mpr c34
                        have c34b1 : (a0_2 != 8) = false := bne_eq_false_iff_eq.mpr c34
                        clear c34
                        have H' := Aside0.mk H
                        clear H
                        go_wp2
                        go_meet
                        case rel => exact ⟨_, ((a0_2 == 8)), (by first | rfl | (simp; done) | (simp [*]; done)), H', ⟨by have := HJ2.out; have := HJ19.out; first | omega | exact Nat.le_refl _⟩, ⟨by (with_reducible repeat (first | refine blk_drewN ?_ _ | refine blk_drew ?_ | refine blk_alloc ?_ _)); exact BK182.out⟩, ⟨by (with_reducible repeat (first | refine blk_drewN ?_ _ | refine blk_drew ?_ | refine blk_alloc ?_ _)); exact BK183.out⟩, ⟨by repeat (first | (with_reducible first | exact HB.out | apply below_alloc | apply pw_below_drewN | apply below_drew1 | refine below_set ?_ GE182.out | refine below_set ?_ GE183.out) | exact HB.out)⟩⟩
                      · rw [if_neg c34] at H
                        have c34b0 : (a0_2 == 8) = false := beq_eq_false_iff_ne.mpr c34
                        have c34b1 : (a0_2 != 8) = true := bne_iff_ne.mpr c34
                        have H' := Aside0.mk H
                        clear H
                        go_wp2
                        go_meet
                        case rel => exact ⟨_, ((a0_2 == 9)), (by first | rfl | (simp; done) | (simp [*]; done)), H', ⟨by have := HJ2.out; have := HJ19.out; first | omega | exact Nat.le_refl _⟩, ⟨by (with_reducible repeat (first | refine blk_drewN ?_ _ | refine blk_drew ?_ | refine blk_alloc ?_ _)); exact BK182.out⟩, ⟨by (with_reducible repeat (first | refine blk_drewN ?_ _ | refine blk_drew ?_ | refine blk_alloc ?_ _)); exact BK183.out⟩, ⟨by repeat (first | (with_reducible first | exact HB.out | apply below_alloc | apply pw_below_drewN | apply below_drew1 | refine below_set ?_ GE182.out | refine below_set ?_ GE183.out) | exact HB.out)⟩⟩
              case rest =>
                clear HC30
                try clear c1
                try clear c2
                try clear p2
                try clear c3
                try clear c6
                try clear c6b0
                try clear c7
                try clear c9
                try clear c9b0
                try clear c10
                try clear c12
                try clear c12b0
                try clear c13
                try clear c16
                try clear c19
                try clear c21
                try clear c23
                try clear c23b0
                try clear c23b1
                try clear c24
                try clear c25
                try clear c25b0
                try clear c25b1
                try clear c26
                try clear c28
                try clear c31
                try clear c31b0
                try clear c31b1
                try clear c32
                try clear c32b0
                try clear c32b1
                try clear c33
                try clear c33b0
                try clear c33b1
                try clear c34
                try clear c34b0
                try clear c34b1
                try clear hcz11_0
                try clear hcz11_1
                try clear hcz11_2
                try clear hcz11_3
                try clear hcz11_4
                try clear hcz14_0
                try clear hcz14_1
                try clear hcz14_2
                try clear hcz14_3
                try clear hcz14_4
                try clear hcz17_0
                try clear hcz17_1
                try clear hcz17_2
                try clear hcz17_3
                try clear hcz17_4
                try clear hcz18_0
                try clear hcz18_1
                try clear hcz18_2
                try clear hcz18_3
                try clear hcz18_4
                try clear hcz18_5
                try clear hcz22_0
                try clear hcz22_1
                try clear hcz22_2
                try clear hcz22_3
                try clear hcz22_4
                try clear hcz22_5
                try clear hcz27_0
                try clear hcz27_1
                try clear hcz27_2
                try clear hcz27_3
                try clear hcz27_4
                try clear hcz29_0
                try clear hcz29_1
                try clear hcz29_2
                try clear hcz29_3
                try clear hcz29_4
                try clear hcz8_0
                try clear hcz8_1
                try clear hcz8_2
                try clear hcz8_3
                try clear hcz8_4
                try clear hfz11_0
                try clear hfz11_1
                try clear hfz11_2
                try clear hfz11_3
                try clear hfz11_4
                try clear hfz14_0
                try clear hfz14_1
                try clear hfz14_2
                try clear hfz14_3
                try clear hfz14_4
                try clear hfz17_0
                try clear hfz17_1
                try clear hfz17_2
                try clear hfz17_3
                try clear hfz17_4
                try clear hfz18_0
                try clear hfz18_1
                try clear hfz18_2
                try clear hfz18_3
                try clear hfz18_4
                try clear hfz18_5
                try clear hfz22_0
                try clear hfz22_1
                try clear hfz22_2
                try clear hfz22_3
                try clear hfz22_4
                try clear hfz22_5
                try clear hfz27_0
                try clear hfz27_1
                try clear hfz27_2
                try clear hfz27_3
                try clear hfz27_4
                try clear hfz29_0
                try clear hfz29_1
                try clear hfz29_2
                try clear hfz29_3
                try clear hfz29_4
                try clear hfz8_0
                try clear hfz8_1
                try clear hfz8_2
                try clear hfz8_3
                try clear hfz8_4
                try clear p2
                obtain ⟨kq, x39_29, rfl, HA, HJ29, BK182, BK183, HB⟩ := hcut
                cases kq with
                | zero => exact absurd HA.out (by simp [bulwarkref05_fields.j2])
                | succ kj29 =>
                  have H := HA.out
                  clear HA
                  simp only [bulwarkref05_fields.j2] at H
                  by_cases c35 : x39_29 = true
                  · subst c35
                    have H1 : (some (a1_3 == 0)) = some r := by rw [if_pos rfl] at H; exact H
                    clear H
                    have H := H1
                    clear H1
                    obtain rfl := Option.some.inj H
                    have hnb36 := NB183_182.out
                    have hnc36 := NB182_183.out
                    have hcz37_0 : wc.cell? ⟨gb183, 0, none⟩ = some (.int .u8 a1_0) := (blk_cell BK183.out 0).trans rfl
                    have hcz37_1 : wc.cell? ⟨gb183, 1, none⟩ = some (.int .u8 a1_1) := (blk_cell BK183.out 1).trans rfl
                    have hcz37_2 : wc.cell? ⟨gb183, 2, none⟩ = some (.int .u8 a1_2) := (blk_cell BK183.out 2).trans rfl
                    have hcz37_3 : wc.cell? ⟨gb183, 3, none⟩ = some (.int .u8 a1_3) := (blk_cell BK183.out 3).trans rfl
                    have hcz37_4 : wc.cell? ⟨gb183, 4, none⟩ = some (.int .i32 a1_4) := (blk_cell BK183.out 4).trans rfl
                    have hfz37_0 := blk_frozen BK183.out 0
                    have hfz37_1 := blk_frozen BK183.out 1
                    have hfz37_2 := blk_frozen BK183.out 2
                    have hfz37_3 := blk_frozen BK183.out 3
                    have hfz37_4 := blk_frozen BK183.out 4
                    go_wp2
                    go_ret
                    exact ⟨by first | rfl | (simp [errW_none, errW_some] <;> rfl) | (simp [*, errW_none, errW_some] <;> rfl), by repeat (first | (with_reducible first | exact HB.out | apply below_alloc | apply pw_below_drewN | apply below_drew1 | refine below_set ?_ GE182.out | refine below_set ?_ GE183.out) | exact HB.out)⟩
                  · replace c35 := Bool.eq_false_iff.mpr c35
                    subst c35
                    have H1 : (if a0_2 = 5 then (bulwarkref05_fields.j3 kj29 a0_2 (a0_2 == 5) a1_0 a1_1 a1_2 a1_3 a1_4) else (bulwarkref05_fields.j3 kj29 a0_2 (a0_2 == 6) a1_0 a1_1 a1_2 a1_3 a1_4)) = some r := by rw [if_neg (show ¬ (false = true) by decide)] at H; exact H
                    clear H
                    have H := H1
                    clear H1
                    have HC38 := Aside0.mk H
                    clear H
                    go_upto_if 48 with (fail)
                    go_cut [48] (fun v48 wc => ∃ (kq : Nat) (x48_37 : Bool), v48 = .bool x48_37 ∧ Aside0 (bulwarkref05_fields.j3 kq a0_2 x48_37 a1_0 a1_1 a1_2 a1_3 a1_4 = some r) ∧ Aside0 (kq ≤ kj29) ∧ Aside0 (wc.heap[gb182]? = some (.cells #[.int .u8 a0_0, .string a0_1, .int .i64 a0_2, .int .u32 a0_3, .int .u32 a0_4, .int .u32 a0_5] 119 (0, 0))) ∧ Aside0 (wc.heap[gb183]? = some (.cells #[.int .u8 a1_0, .int .u8 a1_1, .int .u8 a1_2, .int .u8 a1_3, .int .i32 a1_4] 63 (0, 0))) ∧ Aside0 (Below w.heap.size w wc))
                    case first =>
                      have H := HC38.out
                      clear HC38
                      by_cases c39 : a0_2 = 5
                      · rw [if_pos c39] at H
                        have c39b0 : (a0_2 == 5) = true := beq_iff_eq.mpr c39
                        have c39b1 : (a0_2 != 5) = false := bne_eq_false_iff_eq.mpr c39
                        clear c39
                        (first | rw [c39b0] | (simp only [i64_w, i32_w]; rw [c39b0]) | skip)
                        have H' := Aside0.mk H
                        clear H
                        go_wp2
                        go_meet
                        case rel => exact ⟨_, ((a0_2 == 5)), (by first | rfl | (simp; done) | (simp [*]; done)), H', ⟨by have := HJ2.out; have := HJ19.out; have := HJ29.out; first | omega | exact Nat.le_refl _⟩, ⟨by (with_reducible repeat (first | refine blk_drewN ?_ _ | refine blk_drew ?_ | refine blk_alloc ?_ _)); exact BK182.out⟩, ⟨by (with_reducible repeat (first | refine blk_drewN ?_ _ | refine blk_drew ?_ | refine blk_alloc ?_ _)); exact BK183.out⟩, ⟨by repeat (first | (with_reducible first | exact HB.out | apply below_alloc | apply pw_below_drewN | apply below_drew1 | refine below_set ?_ GE182.out | refine below_set ?_ GE183.out) | exact HB.out)⟩⟩
                      · rw [if_neg c39] at H
                        have c39b0 : (a0_2 == 5) = false := beq_eq_false_iff_ne.mpr c39
                        have c39b1 : (a0_2 != 5) = true := bne_iff_ne.mpr c39
                        (first | rw [c39b0] | (simp only [i64_w, i32_w]; rw [c39b0]) | skip)
                        have H' := Aside0.mk H
                        clear H
                        go_wp2
                        go_meet
                        case rel => exact ⟨_, ((a0_2 == 6)), (by first | rfl | (simp; done) | (simp [*]; done)), H', ⟨by have := HJ2.out; have := HJ19.out; have := HJ29.out; first | omega | exact Nat.le_refl _⟩, ⟨by (with_reducible repeat (first | refine blk_drewN ?_ _ | refine blk_drew ?_ | refine blk_alloc ?_ _)); exact BK182.out⟩, ⟨by (with_reducible repeat (first | refine blk_drewN ?_ _ | refine blk_drew ?_ | refine blk_alloc ?_ _)); exact BK183.out⟩, ⟨by repeat (first | (with_reducible first | exact HB.out | apply below_alloc | apply pw_below_drewN | apply below_drew1 | refine below_set ?_ GE182.out | refine below_set ?_ GE183.out) | exact HB.out)⟩⟩
                    case rest =>
                      clear HC38
                      try clear c1
                      try clear c2
                      try clear p2
                      try clear c3
                      try clear c6
                      try clear c6b0
                      try clear c7
                      try clear c9
                      try clear c9b0
                      try clear c10
                      try clear c12
                      try clear c12b0
                      try clear c13
                      try clear c16
                      try clear c19
                      try clear c21
                      try clear c23
                      try clear c23b0
                      try clear c23b1
                      try clear c24
                      try clear c25
                      try clear c25b0
                      try clear c25b1
                      try clear c26
                      try clear c28
                      try clear c31
                      try clear c31b0
                      try clear c31b1
                      try clear c32
                      try clear c32b0
                      try clear c32b1
                      try clear c33
                      try clear c33b0
                      try clear c33b1
                      try clear c34
                      try clear c34b0
                      try clear c34b1
                      try clear c35
                      try clear c36
                      try clear c39
                      try clear c39b0
                      try clear c39b1
                      try clear hcz11_0
                      try clear hcz11_1
                      try clear hcz11_2
                      try clear hcz11_3
                      try clear hcz11_4
                      try clear hcz14_0
                      try clear hcz14_1
                      try clear hcz14_2
                      try clear hcz14_3
                      try clear hcz14_4
                      try clear hcz17_0
                      try clear hcz17_1
                      try clear hcz17_2
                      try clear hcz17_3
                      try clear hcz17_4
                      try clear hcz18_0
                      try clear hcz18_1
                      try clear hcz18_2
                      try clear hcz18_3
                      try clear hcz18_4
                      try clear hcz18_5
                      try clear hcz22_0
                      try clear hcz22_1
                      try clear hcz22_2
                      try clear hcz22_3
                      try clear hcz22_4
                      try clear hcz22_5
                      try clear hcz27_0
                      try clear hcz27_1
                      try clear hcz27_2
                      try clear hcz27_3
                      try clear hcz27_4
                      try clear hcz29_0
                      try clear hcz29_1
                      try clear hcz29_2
                      try clear hcz29_3
                      try clear hcz29_4
                      try clear hcz37_0
                      try clear hcz37_1
                      try clear hcz37_2
                      try clear hcz37_3
                      try clear hcz37_4
                      try clear hcz8_0
                      try clear hcz8_1
                      try clear hcz8_2
                      try clear hcz8_3
                      try clear hcz8_4
                      try clear hfz11_0
                      try clear hfz11_1
                      try clear hfz11_2
                      try clear hfz11_3
                      try clear hfz11_4
                      try clear hfz14_0
                      try clear hfz14_1
                      try clear hfz14_2
                      try clear hfz14_3
                      try clear hfz14_4
                      try clear hfz17_0
                      try clear hfz17_1
                      try clear hfz17_2
                      try clear hfz17_3
                      try clear hfz17_4
                      try clear hfz18_0
                      try clear hfz18_1
                      try clear hfz18_2
                      try clear hfz18_3
                      try clear hfz18_4
                      try clear hfz18_5
                      try clear hfz22_0
                      try clear hfz22_1
                      try clear hfz22_2
                      try clear hfz22_3
                      try clear hfz22_4
                      try clear hfz22_5
                      try clear hfz27_0
                      try clear hfz27_1
                      try clear hfz27_2
                      try clear hfz27_3
                      try clear hfz27_4
                      try clear hfz29_0
                      try clear hfz29_1
                      try clear hfz29_2
                      try clear hfz29_3
                      try clear hfz29_4
                      try clear hfz37_0
                      try clear hfz37_1
                      try clear hfz37_2
                      try clear hfz37_3
                      try clear hfz37_4
                      try clear hfz8_0
                      try clear hfz8_1
                      try clear hfz8_2
                      try clear hfz8_3
                      try clear hfz8_4
                      try clear p2
                      obtain ⟨kq, x48_37, rfl, HA, HJ37, BK182, BK183, HB⟩ := hcut
                      cases kq with
                      | zero => exact absurd HA.out (by simp [bulwarkref05_fields.j3])
                      | succ kj37 =>
                        have H := HA.out
                        clear HA
                        simp only [bulwarkref05_fields.j3] at H
                        by_cases c40 : x48_37 = true
                        · subst c40
                          have H1 : (some (a1_1 == 0)) = some r := by rw [if_pos rfl] at H; exact H
                          clear H
                          have H := H1
                          clear H1
                          obtain rfl := Option.some.inj H
                          have hnb41 := NB183_182.out
                          have hnc41 := NB182_183.out
                          have hcz42_0 : wc.cell? ⟨gb183, 0, none⟩ = some (.int .u8 a1_0) := (blk_cell BK183.out 0).trans rfl
                          have hcz42_1 : wc.cell? ⟨gb183, 1, none⟩ = some (.int .u8 a1_1) := (blk_cell BK183.out 1).trans rfl
                          have hcz42_2 : wc.cell? ⟨gb183, 2, none⟩ = some (.int .u8 a1_2) := (blk_cell BK183.out 2).trans rfl
                          have hcz42_3 : wc.cell? ⟨gb183, 3, none⟩ = some (.int .u8 a1_3) := (blk_cell BK183.out 3).trans rfl
                          have hcz42_4 : wc.cell? ⟨gb183, 4, none⟩ = some (.int .i32 a1_4) := (blk_cell BK183.out 4).trans rfl
                          have hfz42_0 := blk_frozen BK183.out 0
                          have hfz42_1 := blk_frozen BK183.out 1
                          have hfz42_2 := blk_frozen BK183.out 2
                          have hfz42_3 := blk_frozen BK183.out 3
                          have hfz42_4 := blk_frozen BK183.out 4
                          go_wp2
                          go_ret
                          exact ⟨by first | rfl | (simp [errW_none, errW_some] <;> rfl) | (simp [*, errW_none, errW_some] <;> rfl), by repeat (first | (with_reducible first | exact HB.out | apply below_alloc | apply pw_below_drewN | apply below_drew1 | refine below_set ?_ GE182.out | refine below_set ?_ GE183.out) | exact HB.out)⟩
                        · replace c40 := Bool.eq_false_iff.mpr c40
                          subst c40
                          have H1 : (if a0_2 = 10 then (if a1_1 = 0 then (if a1_2 = 0 then (some (a1_3 == 0)) else (some false)) else (some false)) else (some true)) = some r := by rw [if_neg (show ¬ (false = true) by decide)] at H; exact H
                          clear H
                          have H := H1
                          clear H1
                          by_cases c43 : a0_2 = 10
                          · rw [if_pos c43] at H
                            have c43b0 : (a0_2 == 10) = true := beq_iff_eq.mpr c43
                            have c43b1 : (a0_2 != 10) = false := bne_eq_false_iff_eq.mpr c43
                            clear c43
                            by_cases c44 : a1_1 = 0
                            · rw [if_pos c44] at H
                              have c44b0 : (a1_1 == 0) = true := beq_iff_eq.mpr c44
                              have c44b1 : (a1_1 != 0) = false := bne_eq_false_iff_eq.mpr c44
                              clear c44
                              by_cases c45 : a1_2 = 0
                              · rw [if_pos c45] at H
                                have c45b0 : (a1_2 == 0) = true := beq_iff_eq.mpr c45
                                have c45b1 : (a1_2 != 0) = false := bne_eq_false_iff_eq.mpr c45
                                clear c45
                                obtain rfl := Option.some.inj H
                                have hnb46 := NB183_182.out
                                have hnc46 := NB182_183.out
                                have hcz47_0 : wc.cell? ⟨gb183, 0, none⟩ = some (.int .u8 a1_0) := (blk_cell BK183.out 0).trans rfl
                                have hcz47_1 : wc.cell? ⟨gb183, 1, none⟩ = some (.int .u8 a1_1) := (blk_cell BK183.out 1).trans rfl
                                have hcz47_2 : wc.cell? ⟨gb183, 2, none⟩ = some (.int .u8 a1_2) := (blk_cell BK183.out 2).trans rfl
                                have hcz47_3 : wc.cell? ⟨gb183, 3, none⟩ = some (.int .u8 a1_3) := (blk_cell BK183.out 3).trans rfl
                                have hcz47_4 : wc.cell? ⟨gb183, 4, none⟩ = some (.int .i32 a1_4) := (blk_cell BK183.out 4).trans rfl
                                have hfz47_0 := blk_frozen BK183.out 0
                                have hfz47_1 := blk_frozen BK183.out 1
                                have hfz47_2 := blk_frozen BK183.out 2
                                have hfz47_3 := blk_frozen BK183.out 3
                                have hfz47_4 := blk_frozen BK183.out 4
                                go_wp2
                                go_ret
                                exact ⟨by first | rfl | (simp [errW_none, errW_some] <;> rfl) | (simp [*, errW_none, errW_some] <;> rfl), by repeat (first | (with_reducible first | exact HB.out | apply below_alloc | apply pw_below_drewN | apply below_drew1 | refine below_set ?_ GE182.out | refine below_set ?_ GE183.out) | exact HB.out)⟩
                              · rw [if_neg c45] at H
                                have c45b0 : (a1_2 == 0) = false := beq_eq_false_iff_ne.mpr c45
                                have c45b1 : (a1_2 != 0) = true := bne_iff_ne.mpr c45
                                obtain rfl := Option.some.inj H
                                have hnb48 := NB183_182.out
                                have hnc48 := NB182_183.out
                                have hcz49_0 : wc.cell? ⟨gb183, 0, none⟩ = some (.int .u8 a1_0) := (blk_cell BK183.out 0).trans rfl
                                have hcz49_1 : wc.cell? ⟨gb183, 1, none⟩ = some (.int .u8 a1_1) := (blk_cell BK183.out 1).trans rfl
                                have hcz49_2 : wc.cell? ⟨gb183, 2, none⟩ = some (.int .u8 a1_2) := (blk_cell BK183.out 2).trans rfl
                                have hcz49_3 : wc.cell? ⟨gb183, 3, none⟩ = some (.int .u8 a1_3) := (blk_cell BK183.out 3).trans rfl
                                have hcz49_4 : wc.cell? ⟨gb183, 4, none⟩ = some (.int .i32 a1_4) := (blk_cell BK183.out 4).trans rfl
                                have hfz49_0 := blk_frozen BK183.out 0
                                have hfz49_1 := blk_frozen BK183.out 1
                                have hfz49_2 := blk_frozen BK183.out 2
                                have hfz49_3 := blk_frozen BK183.out 3
                                have hfz49_4 := blk_frozen BK183.out 4
                                go_wp2
                                go_ret
                                exact ⟨by first | rfl | (simp [errW_none, errW_some] <;> rfl) | (simp [*, errW_none, errW_some] <;> rfl), by repeat (first | (with_reducible first | exact HB.out | apply below_alloc | apply pw_below_drewN | apply below_drew1 | refine below_set ?_ GE182.out | refine below_set ?_ GE183.out) | exact HB.out)⟩
                            · rw [if_neg c44] at H
                              have c44b0 : (a1_1 == 0) = false := beq_eq_false_iff_ne.mpr c44
                              have c44b1 : (a1_1 != 0) = true := bne_iff_ne.mpr c44
                              obtain rfl := Option.some.inj H
                              have hnb50 := NB183_182.out
                              have hnc50 := NB182_183.out
                              have hcz51_0 : wc.cell? ⟨gb183, 0, none⟩ = some (.int .u8 a1_0) := (blk_cell BK183.out 0).trans rfl
                              have hcz51_1 : wc.cell? ⟨gb183, 1, none⟩ = some (.int .u8 a1_1) := (blk_cell BK183.out 1).trans rfl
                              have hcz51_2 : wc.cell? ⟨gb183, 2, none⟩ = some (.int .u8 a1_2) := (blk_cell BK183.out 2).trans rfl
                              have hcz51_3 : wc.cell? ⟨gb183, 3, none⟩ = some (.int .u8 a1_3) := (blk_cell BK183.out 3).trans rfl
                              have hcz51_4 : wc.cell? ⟨gb183, 4, none⟩ = some (.int .i32 a1_4) := (blk_cell BK183.out 4).trans rfl
                              have hfz51_0 := blk_frozen BK183.out 0
                              have hfz51_1 := blk_frozen BK183.out 1
                              have hfz51_2 := blk_frozen BK183.out 2
                              have hfz51_3 := blk_frozen BK183.out 3
                              have hfz51_4 := blk_frozen BK183.out 4
                              go_wp2
                              go_ret
                              exact ⟨by first | rfl | (simp [errW_none, errW_some] <;> rfl) | (simp [*, errW_none, errW_some] <;> rfl), by repeat (first | (with_reducible first | exact HB.out | apply below_alloc | apply pw_below_drewN | apply below_drew1 | refine below_set ?_ GE182.out | refine below_set ?_ GE183.out) | exact HB.out)⟩
                          · rw [if_neg c43] at H
                            have c43b0 : (a0_2 == 10) = false := beq_eq_false_iff_ne.mpr c43
                            have c43b1 : (a0_2 != 10) = true := bne_iff_ne.mpr c43
                            obtain rfl := Option.some.inj H
                            go_wp2
                            go_ret
                            exact ⟨by first | rfl | (simp [errW_none, errW_some] <;> rfl) | (simp [*, errW_none, errW_some] <;> rfl), by repeat (first | (with_reducible first | exact HB.out | apply below_alloc | apply pw_below_drewN | apply below_drew1 | refine below_set ?_ GE182.out | refine below_set ?_ GE183.out) | exact HB.out)⟩


/-! ### bulwarkref05_Put: function 69 -/
mutual
def bulwarkref05_Put.j0 : Nat → Bool → Int → Int → Int → Int → Int → Int → ByteArray → Int → Int → Int → Int → Option (Int × Int)
  | 0, _, _, _, _, _, _, _, _, _, _, _, _ => none
  | k + 1, x24, x186000, x186001, x186002, x186003, x186004, x194000, x194001, x194002, x194003, x194004, x194005 => if x24 = true then (some (0, 2)) else (if x194002 = 0 then (some (Go.bits .or .u32 (Go.bits .or .u32 (Go.bits .or .u32 x194003 ((x194004 * 4096) % 4294967296)) ((((x186001) % 4294967296) * 128) % 4294967296)) ((x186004) % 4294967296), 0)) else (if x194002 = 1 then ((bulwarkref05_bits.f ((x186004) % 4294967296) 20 1).bind fun t195 => ((bulwarkref05_bits.f ((x186004) % 4294967296) 1 10).bind fun t196 => ((bulwarkref05_bits.f ((x186004) % 4294967296) 11 1).bind fun t197 => ((bulwarkref05_bits.f ((x186004) % 4294967296) 12 8).bind fun t198 => (some (Go.bits .or .u32 (Go.bits .or .u32 (Go.bits .or .u32 (Go.bits .or .u32 (Go.bits .or .u32 (Go.bits .or .u32 x194003 ((x194004 * 4096) % 4294967296)) ((((x186001) % 4294967296) * 128) % 4294967296)) ((t195 * 2147483648) % 4294967296)) ((t196 * 2097152) % 4294967296)) ((t197 * 1048576) % 4294967296)) ((t198 * 4096) % 4294967296), 0)))))) else (if x194002 = 2 then (bulwarkref05_Put.j1 k ((x186004) % 4294967296) ((((x186001) % 4294967296) * 128) % 4294967296) ((((x186002) % 4294967296) * 32768) % 4294967296) ((((x186003) % 4294967296) * 1048576) % 4294967296) (Go.bits .or .u32 x194003 ((x194004 * 4096) % 4294967296)) x194002 (x194002 == 2) x194000 x194001 x194002 x194003 x194004 x194005) else (bulwarkref05_Put.j1 k ((x186004) % 4294967296) ((((x186001) % 4294967296) * 128) % 4294967296) ((((x186002) % 4294967296) * 32768) % 4294967296) ((((x186003) % 4294967296) * 1048576) % 4294967296) (Go.bits .or .u32 x194003 ((x194004 * 4096) % 4294967296)) x194002 (x194002 == 3) x194000 x194001 x194002 x194003 x194004 x194005))))
def bulwarkref05_Put.j1 : Nat → Int → Int → Int → Int → Int → Int → Bool → Int → ByteArray → Int → Int → Int → Int → Option (Int × Int)
  | 0, _, _, _, _, _, _, _, _, _, _, _, _, _ => none
  | k + 1, x6, x7, x8, x9, x10, x47, x76, x194000, x194001, x194002, x194003, x194004, x194005 => if x76 = true then ((bulwarkref05_bits.f x6 0 12).bind fun t199 => (some (Go.bits .or .u32 (Go.bits .or .u32 (Go.bits .or .u32 x10 x7) x8) ((t199 * 1048576) % 4294967296), 0))) else (if x47 = 4 then (some (Go.bits .or .u32 (Go.bits .or .u32 (Go.bits .or .u32 (Go.bits .or .u32 x10 x7) x8) ((x6 * 1048576) % 4294967296)) ((x194005 * 33554432) % 4294967296), 0)) else (if x47 = 5 then ((bulwarkref05_bits.f x6 0 5).bind fun t200 => ((bulwarkref05_bits.f x6 5 7).bind fun t201 => (some (Go.bits .or .u32 (Go.bits .or .u32 (Go.bits .or .u32 (Go.bits .or .u32 x10 x8) x9) ((t200 * 128) % 4294967296)) ((t201 * 33554432) % 4294967296), 0)))) else (if x47 = 6 then ((bulwarkref05_bits.f x6 11 1).bind fun t202 => ((bulwarkref05_bits.f x6 1 4).bind fun t203 => ((bulwarkref05_bits.f x6 5 6).bind fun t204 => ((bulwarkref05_bits.f x6 12 1).bind fun t205 => (some (Go.bits .or .u32 (Go.bits .or .u32 (Go.bits .or .u32 (Go.bits .or .u32 (Go.bits .or .u32 (Go.bits .or .u32 x10 x8) x9) ((t202 * 128) % 4294967296)) ((t203 * 256) % 4294967296)) ((t204 * 33554432) % 4294967296)) ((t205 * 2147483648) % 4294967296), 0)))))) else (if x47 = 7 then (some (Go.bits .or .u32 (Go.bits .or .u32 (Go.bits .or .u32 (Go.bits .or .u32 x10 x7) x8) x9) ((x194005 * 33554432) % 4294967296), 0)) else (if x47 = 8 then (some (Go.bits .or .u32 (Go.bits .or .u32 (Go.bits .or .u32 x10 x7) x8) ((x194005 * 1048576) % 4294967296), 0)) else (if x47 = 9 then (some (Go.bits .or .u32 (Go.bits .or .u32 (Go.bits .or .u32 (Go.bits .or .u32 x10 x7) x8) ((x6 * 1048576) % 4294967296)) ((x194005 * 33554432) % 4294967296), 0)) else (some (x10, 0))))))))
end
def bulwarkref05_Put.f (k : Nat) (a0_0 : Int) (a0_1 : Int) (a0_2 : Int) (a0_3 : Int) (a0_4 : Int) : Option (Int × Int) := (bulwarkref05_row.f k a0_0).bind fun bt186 => (if bt186.2.2.2.2.2.2 = true then ((bulwarkref05_fields.f k bt186.1 bt186.2.1 bt186.2.2.1 bt186.2.2.2.1 bt186.2.2.2.2.1 bt186.2.2.2.2.2.1 a0_0 a0_1 a0_2 a0_3 a0_4).bind fun t194 => (bulwarkref05_Put.j0 k (!t194) a0_0 a0_1 a0_2 a0_3 a0_4 bt186.1 bt186.2.1 bt186.2.2.1 bt186.2.2.2.1 bt186.2.2.2.2.1 bt186.2.2.2.2.2.1)) else (bulwarkref05_Put.j0 k true a0_0 a0_1 a0_2 a0_3 a0_4 bt186.1 bt186.2.1 bt186.2.2.1 bt186.2.2.2.1 bt186.2.2.2.2.1 bt186.2.2.2.2.2.1))
theorem bulwarkref05_Put.mono_l : ∀ k, (∀ y0 y1 y2 y3 y4 y5 y6 y7 y8 y9 y10 y11, LeO (bulwarkref05_Put.j0 k y0 y1 y2 y3 y4 y5 y6 y7 y8 y9 y10 y11) (bulwarkref05_Put.j0 (k + 1) y0 y1 y2 y3 y4 y5 y6 y7 y8 y9 y10 y11)) ∧ (∀ y0 y1 y2 y3 y4 y5 y6 y7 y8 y9 y10 y11 y12, LeO (bulwarkref05_Put.j1 k y0 y1 y2 y3 y4 y5 y6 y7 y8 y9 y10 y11 y12) (bulwarkref05_Put.j1 (k + 1) y0 y1 y2 y3 y4 y5 y6 y7 y8 y9 y10 y11 y12))
  | 0 => ⟨fun _ _ _ _ _ _ _ _ _ _ _ _ r h => by simp [bulwarkref05_Put.j0] at h, fun _ _ _ _ _ _ _ _ _ _ _ _ _ r h => by simp [bulwarkref05_Put.j1] at h⟩
  | k + 1 => by
    obtain ⟨ih0, ih1⟩ := bulwarkref05_Put.mono_l k
    refine ⟨?_, ?_⟩
    · intro y0 y1 y2 y3 y4 y5 y6 y7 y8 y9 y10 y11
      unfold bulwarkref05_Put.j0
      repeat' first
      | (with_reducible exact ih0 _ _ _ _ _ _ _ _ _ _ _ _)
      | (with_reducible exact ih1 _ _ _ _ _ _ _ _ _ _ _ _ _)
      | (with_reducible exact bulwarkref05_fields.mono _ _ _ _ _ _ _ _ _ _ _ _)
      | (with_reducible exact bulwarkref05_row.mono _ _)
      | (with_reducible exact LeO.refl _)
      | (with_reducible exact LeO.none _)
      | (with_reducible refine LeO.ite ?_ ?_)
      | (with_reducible refine LeO.bind ?_ (fun _ => ?_))
      | exact ih0 _ _ _ _ _ _ _ _ _ _ _ _
      | exact ih1 _ _ _ _ _ _ _ _ _ _ _ _ _
      | exact bulwarkref05_fields.mono _ _ _ _ _ _ _ _ _ _ _ _
      | exact bulwarkref05_row.mono _ _
      | exact LeO.none _
      | refine LeO.ite ?_ ?_
      | refine LeO.bind ?_ (fun _ => ?_)
    · intro y0 y1 y2 y3 y4 y5 y6 y7 y8 y9 y10 y11 y12
      unfold bulwarkref05_Put.j1
      repeat' first
      | (with_reducible exact ih0 _ _ _ _ _ _ _ _ _ _ _ _)
      | (with_reducible exact ih1 _ _ _ _ _ _ _ _ _ _ _ _ _)
      | (with_reducible exact bulwarkref05_fields.mono _ _ _ _ _ _ _ _ _ _ _ _)
      | (with_reducible exact bulwarkref05_row.mono _ _)
      | (with_reducible exact LeO.refl _)
      | (with_reducible exact LeO.none _)
      | (with_reducible refine LeO.ite ?_ ?_)
      | (with_reducible refine LeO.bind ?_ (fun _ => ?_))
      | exact ih0 _ _ _ _ _ _ _ _ _ _ _ _
      | exact ih1 _ _ _ _ _ _ _ _ _ _ _ _ _
      | exact bulwarkref05_fields.mono _ _ _ _ _ _ _ _ _ _ _ _
      | exact bulwarkref05_row.mono _ _
      | exact LeO.none _
      | refine LeO.ite ?_ ?_
      | refine LeO.bind ?_ (fun _ => ?_)
theorem bulwarkref05_Put.mono : ∀ a0 a1 a2 a3 a4 k, LeO (bulwarkref05_Put.f k a0 a1 a2 a3 a4) (bulwarkref05_Put.f (k + 1) a0 a1 a2 a3 a4) := by
  intro a0 a1 a2 a3 a4 k
  obtain ⟨ih0, ih1⟩ := bulwarkref05_Put.mono_l k
  unfold bulwarkref05_Put.f
  repeat' first
      | (with_reducible exact ih0 _ _ _ _ _ _ _ _ _ _ _ _)
      | (with_reducible exact ih1 _ _ _ _ _ _ _ _ _ _ _ _ _)
      | (with_reducible exact bulwarkref05_fields.mono _ _ _ _ _ _ _ _ _ _ _ _)
      | (with_reducible exact bulwarkref05_row.mono _ _)
      | (with_reducible exact LeO.refl _)
      | (with_reducible exact LeO.none _)
      | (with_reducible refine LeO.ite ?_ ?_)
      | (with_reducible refine LeO.bind ?_ (fun _ => ?_))
      | exact ih0 _ _ _ _ _ _ _ _ _ _ _ _
      | exact ih1 _ _ _ _ _ _ _ _ _ _ _ _ _
      | exact bulwarkref05_fields.mono _ _ _ _ _ _ _ _ _ _ _ _
      | exact bulwarkref05_row.mono _ _
      | exact LeO.none _
      | refine LeO.ite ?_ ?_
      | refine LeO.bind ?_ (fun _ => ?_)
set_option maxHeartbeats 8000000 in
set_option maxRecDepth 100000 in
theorem bulwarkref05_Put.calls (k : Nat) (a0_0 : Int) (a0_1 : Int) (a0_2 : Int) (a0_3 : Int) (a0_4 : Int) (r1 : Int) (r2 : Int) (w : World) (h : bulwarkref05_Put.f k a0_0 a0_1 a0_2 a0_3 a0_4 = some (r1, r2)) :
    Calls Tryz.prog 69 #[.agg #[.int .u8 a0_0, .int .u8 a0_1, .int .u8 a0_2, .int .u8 a0_3, .int .i32 a0_4]] w fun e w' => e = .returned (.tuple #[.int .u32 r1, .int .i64 r2]) ∧ Below w.heap.size w w' := by
  have hu63 := Tryz.underlying63
  have hu119 := Tryz.underlying119
  have HB := Aside0.mk (Below.refl w.heap.size w)
  have H : ((bulwarkref05_row.f k a0_0).bind fun bt186 => (if bt186.2.2.2.2.2.2 = true then ((bulwarkref05_fields.f k bt186.1 bt186.2.1 bt186.2.2.1 bt186.2.2.2.1 bt186.2.2.2.2.1 bt186.2.2.2.2.2.1 a0_0 a0_1 a0_2 a0_3 a0_4).bind fun t194 => (bulwarkref05_Put.j0 k (!t194) a0_0 a0_1 a0_2 a0_3 a0_4 bt186.1 bt186.2.1 bt186.2.2.1 bt186.2.2.2.1 bt186.2.2.2.2.1 bt186.2.2.2.2.2.1)) else (bulwarkref05_Put.j0 k true a0_0 a0_1 a0_2 a0_3 a0_4 bt186.1 bt186.2.1 bt186.2.2.1 bt186.2.2.2.1 bt186.2.2.2.2.1 bt186.2.2.2.2.2.1))) = some (r1, r2) := h
  clear h
  replace H := Option.bind_eq_some_iff.mp H
  obtain ⟨⟨t186, t187, t188, t189, t190, t191, t192⟩, A20, H⟩ := H
  replace H : (if t192 = true then ((bulwarkref05_fields.f k t186 t187 t188 t189 t190 t191 a0_0 a0_1 a0_2 a0_3 a0_4).bind fun t194 => (bulwarkref05_Put.j0 k (!t194) a0_0 a0_1 a0_2 a0_3 a0_4 t186 t187 t188 t189 t190 t191)) else (bulwarkref05_Put.j0 k true a0_0 a0_1 a0_2 a0_3 a0_4 t186 t187 t188 t189 t190 t191)) = some (r1, r2) := H
  have A2 := Aside0.mk A20
  clear A20
  have HC3 := Aside0.mk H
  clear H
  go_enter Tryz.func69, Tryz.ntmps69
  go_upto_region 2 with (first | ((with_reducible refine gate_dst (N := 1) rfl ?_); refine box_event ?hg (N := 1) ?hd (cs := #[.int .u8 a0_0, .int .u8 a0_1, .int .u8 a0_2, .int .u8 a0_3, .int .i32 a0_4]) (t := 63) ?hr ?_; (case hd => rfl); (case hg => rfl); (case hr => first | (go_simp; done) | (go_simp; rfl)); intro gb185 hg w4 hbox hb; have n0_ := Aside0.mk (below_step (by repeat (first | (with_reducible first | exact HB.out | apply below_alloc | apply pw_below_drewN | apply below_drew1) | exact HB.out)) hb); have n1_ := Aside0.mk (hbox); have n2_ := Aside0.mk ((by rw [hg]; exact (below_size (by repeat (first | (with_reducible first | exact HB.out | apply below_alloc | apply pw_below_drewN | apply below_drew1) | exact HB.out))) : w.heap.size ≤ gb185)); have n3_ := Aside0.mk ((by rw [hg]; exact (below_size (by repeat (first | (with_reducible first | exact HB.out | apply below_alloc | apply pw_below_drewN | apply below_drew1) | exact HB.out))) : w.heap.size ≤ gb185)); clear HB; have HB := n0_; have BK185 := n1_; have GW185 := n2_; have GE185 := n3_; clear n0_ n1_ n2_ n3_; clear hb hbox hg; have hcz5_0 : w4.cell? ⟨gb185, 0, none⟩ = some (.int .u8 a0_0) := (blk_cell BK185.out 0).trans rfl; have hcz5_1 : w4.cell? ⟨gb185, 1, none⟩ = some (.int .u8 a0_1) := (blk_cell BK185.out 1).trans rfl; have hcz5_2 : w4.cell? ⟨gb185, 2, none⟩ = some (.int .u8 a0_2) := (blk_cell BK185.out 2).trans rfl; have hcz5_3 : w4.cell? ⟨gb185, 3, none⟩ = some (.int .u8 a0_3) := (blk_cell BK185.out 3).trans rfl; have hcz5_4 : w4.cell? ⟨gb185, 4, none⟩ = some (.int .i32 a0_4) := (blk_cell BK185.out 4).trans rfl; have hfz5_0 := blk_frozen BK185.out 0; have hfz5_1 := blk_frozen BK185.out 1; have hfz5_2 := blk_frozen BK185.out 2; have hfz5_3 := blk_frozen BK185.out 3; have hfz5_4 := blk_frozen BK185.out 4) | (go_at_call 101; (with_reducible refine (bulwarkref05_row.calls k a0_0 t186 t187 t188 t189 t190 t191 t192 _ A2.out).mono ?_); rintro e w6 ⟨rfl, hb⟩; have n0_ := Aside0.mk (blk_below (g := gb185) (o := .cells #[.int .u8 a0_0, .int .u8 a0_1, .int .u8 a0_2, .int .u8 a0_3, .int .i32 a0_4] 63 (0, 0)) (by (with_reducible repeat (first | refine blk_drewN ?_ _ | refine blk_drew ?_ | refine blk_alloc ?_ _)); exact BK185.out) hb); have n1_ := Aside0.mk (below_step (by repeat (first | (with_reducible first | exact HB.out | apply below_alloc | apply pw_below_drewN | apply below_drew1 | refine below_set ?_ GE185.out) | exact HB.out)) hb); clear BK185; clear HB; have BK185 := n0_; have HB := n1_; clear n0_ n1_; (try clear hb); (try clear hb2); (try clear hk); (try clear hi)) | ((with_reducible refine gate_dst (N := 4) rfl ?_); refine box_event ?hg (N := 4) ?hd (cs := #[.int .u8 0, .string (⟨#[]⟩ : ByteArray), .int .i64 0, .int .u32 0, .int .u32 0, .int .u32 0]) (t := 119) ?hr ?_; (case hd => rfl); (case hg => rfl); (case hr => first | (go_simp; done) | (go_simp; rfl)); intro gb193 hg w7 hbox hb; have n0_ := Aside0.mk (blk_below (g := gb185) (o := .cells #[.int .u8 a0_0, .int .u8 a0_1, .int .u8 a0_2, .int .u8 a0_3, .int .i32 a0_4] 63 (0, 0)) (by (with_reducible repeat (first | refine blk_drewN ?_ _ | refine blk_drew ?_ | refine blk_alloc ?_ _)); exact BK185.out) hb); have n1_ := Aside0.mk (below_step (by repeat (first | (with_reducible first | exact HB.out | apply below_alloc | apply pw_below_drewN | apply below_drew1 | refine below_set ?_ GE185.out) | exact HB.out)) hb); have n2_ := Aside0.mk (hbox); have n3_ := Aside0.mk ((by rw [hg]; exact (below_size (by repeat (first | (with_reducible first | exact HB.out | apply below_alloc | apply pw_below_drewN | apply below_drew1 | refine below_set ?_ GE185.out) | exact HB.out))) : w.heap.size ≤ gb193)); have n4_ := Aside0.mk ((by rw [hg]; exact (below_size (by repeat (first | (with_reducible first | exact HB.out | apply below_alloc | apply pw_below_drewN | apply below_drew1 | refine below_set ?_ GE185.out) | exact HB.out))) : w.heap.size ≤ gb193)); have n5_ := Aside0.mk ((by rw [hg]; exact Nat.ne_of_lt (blk_lt (g := gb185) (o := .cells #[.int .u8 a0_0, .int .u8 a0_1, .int .u8 a0_2, .int .u8 a0_3, .int .i32 a0_4] 63 (0, 0)) (by (with_reducible repeat (first | refine blk_drewN ?_ _ | refine blk_drew ?_ | refine blk_alloc ?_ _)); exact BK185.out)) : gb185 ≠ gb193)); have n6_ := Aside0.mk ((by rw [hg]; exact Nat.ne_of_gt (blk_lt (g := gb185) (o := .cells #[.int .u8 a0_0, .int .u8 a0_1, .int .u8 a0_2, .int .u8 a0_3, .int .i32 a0_4] 63 (0, 0)) (by (with_reducible repeat (first | refine blk_drewN ?_ _ | refine blk_drew ?_ | refine blk_alloc ?_ _)); exact BK185.out)) : gb193 ≠ gb185)); clear BK185; clear HB; have BK185 := n0_; have HB := n1_; have BK193 := n2_; have GW193 := n3_; have GE193 := n4_; have NB185_193 := n5_; have NB193_185 := n6_; clear n0_ n1_ n2_ n3_ n4_ n5_ n6_; clear hb hbox hg; have hnb8 := NB193_185.out; have hnc8 := NB185_193.out; have hcz9_0 : w7.cell? ⟨gb193, 0, none⟩ = some (.int .u8 0) := (blk_cell BK193.out 0).trans rfl; have hcz9_1 : w7.cell? ⟨gb193, 1, none⟩ = some (.string (⟨#[]⟩ : ByteArray)) := (blk_cell BK193.out 1).trans rfl; have hcz9_2 : w7.cell? ⟨gb193, 2, none⟩ = some (.int .i64 0) := (blk_cell BK193.out 2).trans rfl; have hcz9_3 : w7.cell? ⟨gb193, 3, none⟩ = some (.int .u32 0) := (blk_cell BK193.out 3).trans rfl; have hcz9_4 : w7.cell? ⟨gb193, 4, none⟩ = some (.int .u32 0) := (blk_cell BK193.out 4).trans rfl; have hcz9_5 : w7.cell? ⟨gb193, 5, none⟩ = some (.int .u32 0) := (blk_cell BK193.out 5).trans rfl; have hfz9_0 := blk_frozen BK193.out 0; have hfz9_1 := blk_frozen BK193.out 1; have hfz9_2 := blk_frozen BK193.out 2; have hfz9_3 := blk_frozen BK193.out 3; have hfz9_4 := blk_frozen BK193.out 4; have hfz9_5 := blk_frozen BK193.out 5))
  repeat (go_quiet (first | ((with_reducible refine gate_dst (N := 1) rfl ?_); refine box_event ?hg (N := 1) ?hd (cs := #[.int .u8 a0_0, .int .u8 a0_1, .int .u8 a0_2, .int .u8 a0_3, .int .i32 a0_4]) (t := 63) ?hr ?_; (case hd => rfl); (case hg => rfl); (case hr => first | (go_simp; done) | (go_simp; rfl)); intro gb185 hg w4 hbox hb; have n0_ := Aside0.mk (below_step (by repeat (first | (with_reducible first | exact HB.out | apply below_alloc | apply pw_below_drewN | apply below_drew1) | exact HB.out)) hb); have n1_ := Aside0.mk (hbox); have n2_ := Aside0.mk ((by rw [hg]; exact (below_size (by repeat (first | (with_reducible first | exact HB.out | apply below_alloc | apply pw_below_drewN | apply below_drew1) | exact HB.out))) : w.heap.size ≤ gb185)); have n3_ := Aside0.mk ((by rw [hg]; exact (below_size (by repeat (first | (with_reducible first | exact HB.out | apply below_alloc | apply pw_below_drewN | apply below_drew1) | exact HB.out))) : w.heap.size ≤ gb185)); clear HB; have HB := n0_; have BK185 := n1_; have GW185 := n2_; have GE185 := n3_; clear n0_ n1_ n2_ n3_; clear hb hbox hg; have hcz5_0 : w4.cell? ⟨gb185, 0, none⟩ = some (.int .u8 a0_0) := (blk_cell BK185.out 0).trans rfl; have hcz5_1 : w4.cell? ⟨gb185, 1, none⟩ = some (.int .u8 a0_1) := (blk_cell BK185.out 1).trans rfl; have hcz5_2 : w4.cell? ⟨gb185, 2, none⟩ = some (.int .u8 a0_2) := (blk_cell BK185.out 2).trans rfl; have hcz5_3 : w4.cell? ⟨gb185, 3, none⟩ = some (.int .u8 a0_3) := (blk_cell BK185.out 3).trans rfl; have hcz5_4 : w4.cell? ⟨gb185, 4, none⟩ = some (.int .i32 a0_4) := (blk_cell BK185.out 4).trans rfl; have hfz5_0 := blk_frozen BK185.out 0; have hfz5_1 := blk_frozen BK185.out 1; have hfz5_2 := blk_frozen BK185.out 2; have hfz5_3 := blk_frozen BK185.out 3; have hfz5_4 := blk_frozen BK185.out 4) | (go_at_call 101; (with_reducible refine (bulwarkref05_row.calls k a0_0 t186 t187 t188 t189 t190 t191 t192 _ A2.out).mono ?_); rintro e w6 ⟨rfl, hb⟩; have n0_ := Aside0.mk (blk_below (g := gb185) (o := .cells #[.int .u8 a0_0, .int .u8 a0_1, .int .u8 a0_2, .int .u8 a0_3, .int .i32 a0_4] 63 (0, 0)) (by (with_reducible repeat (first | refine blk_drewN ?_ _ | refine blk_drew ?_ | refine blk_alloc ?_ _)); exact BK185.out) hb); have n1_ := Aside0.mk (below_step (by repeat (first | (with_reducible first | exact HB.out | apply below_alloc | apply pw_below_drewN | apply below_drew1 | refine below_set ?_ GE185.out) | exact HB.out)) hb); clear BK185; clear HB; have BK185 := n0_; have HB := n1_; clear n0_ n1_; (try clear hb); (try clear hb2); (try clear hk); (try clear hi)) | ((with_reducible refine gate_dst (N := 4) rfl ?_); refine box_event ?hg (N := 4) ?hd (cs := #[.int .u8 0, .string (⟨#[]⟩ : ByteArray), .int .i64 0, .int .u32 0, .int .u32 0, .int .u32 0]) (t := 119) ?hr ?_; (case hd => rfl); (case hg => rfl); (case hr => first | (go_simp; done) | (go_simp; rfl)); intro gb193 hg w7 hbox hb; have n0_ := Aside0.mk (blk_below (g := gb185) (o := .cells #[.int .u8 a0_0, .int .u8 a0_1, .int .u8 a0_2, .int .u8 a0_3, .int .i32 a0_4] 63 (0, 0)) (by (with_reducible repeat (first | refine blk_drewN ?_ _ | refine blk_drew ?_ | refine blk_alloc ?_ _)); exact BK185.out) hb); have n1_ := Aside0.mk (below_step (by repeat (first | (with_reducible first | exact HB.out | apply below_alloc | apply pw_below_drewN | apply below_drew1 | refine below_set ?_ GE185.out) | exact HB.out)) hb); have n2_ := Aside0.mk (hbox); have n3_ := Aside0.mk ((by rw [hg]; exact (below_size (by repeat (first | (with_reducible first | exact HB.out | apply below_alloc | apply pw_below_drewN | apply below_drew1 | refine below_set ?_ GE185.out) | exact HB.out))) : w.heap.size ≤ gb193)); have n4_ := Aside0.mk ((by rw [hg]; exact (below_size (by repeat (first | (with_reducible first | exact HB.out | apply below_alloc | apply pw_below_drewN | apply below_drew1 | refine below_set ?_ GE185.out) | exact HB.out))) : w.heap.size ≤ gb193)); have n5_ := Aside0.mk ((by rw [hg]; exact Nat.ne_of_lt (blk_lt (g := gb185) (o := .cells #[.int .u8 a0_0, .int .u8 a0_1, .int .u8 a0_2, .int .u8 a0_3, .int .i32 a0_4] 63 (0, 0)) (by (with_reducible repeat (first | refine blk_drewN ?_ _ | refine blk_drew ?_ | refine blk_alloc ?_ _)); exact BK185.out)) : gb185 ≠ gb193)); have n6_ := Aside0.mk ((by rw [hg]; exact Nat.ne_of_gt (blk_lt (g := gb185) (o := .cells #[.int .u8 a0_0, .int .u8 a0_1, .int .u8 a0_2, .int .u8 a0_3, .int .i32 a0_4] 63 (0, 0)) (by (with_reducible repeat (first | refine blk_drewN ?_ _ | refine blk_drew ?_ | refine blk_alloc ?_ _)); exact BK185.out)) : gb193 ≠ gb185)); clear BK185; clear HB; have BK185 := n0_; have HB := n1_; have BK193 := n2_; have GW193 := n3_; have GE193 := n4_; have NB185_193 := n5_; have NB193_185 := n6_; clear n0_ n1_ n2_ n3_ n4_ n5_ n6_; clear hb hbox hg; have hnb8 := NB193_185.out; have hnc8 := NB185_193.out; have hcz9_0 : w7.cell? ⟨gb193, 0, none⟩ = some (.int .u8 0) := (blk_cell BK193.out 0).trans rfl; have hcz9_1 : w7.cell? ⟨gb193, 1, none⟩ = some (.string (⟨#[]⟩ : ByteArray)) := (blk_cell BK193.out 1).trans rfl; have hcz9_2 : w7.cell? ⟨gb193, 2, none⟩ = some (.int .i64 0) := (blk_cell BK193.out 2).trans rfl; have hcz9_3 : w7.cell? ⟨gb193, 3, none⟩ = some (.int .u32 0) := (blk_cell BK193.out 3).trans rfl; have hcz9_4 : w7.cell? ⟨gb193, 4, none⟩ = some (.int .u32 0) := (blk_cell BK193.out 4).trans rfl; have hcz9_5 : w7.cell? ⟨gb193, 5, none⟩ = some (.int .u32 0) := (blk_cell BK193.out 5).trans rfl; have hfz9_0 := blk_frozen BK193.out 0; have hfz9_1 := blk_frozen BK193.out 1; have hfz9_2 := blk_frozen BK193.out 2; have hfz9_3 := blk_frozen BK193.out 3; have hfz9_4 := blk_frozen BK193.out 4; have hfz9_5 := blk_frozen BK193.out 5)); go_upto_region 2 with (first | ((with_reducible refine gate_dst (N := 1) rfl ?_); refine box_event ?hg (N := 1) ?hd (cs := #[.int .u8 a0_0, .int .u8 a0_1, .int .u8 a0_2, .int .u8 a0_3, .int .i32 a0_4]) (t := 63) ?hr ?_; (case hd => rfl); (case hg => rfl); (case hr => first | (go_simp; done) | (go_simp; rfl)); intro gb185 hg w4 hbox hb; have n0_ := Aside0.mk (below_step (by repeat (first | (with_reducible first | exact HB.out | apply below_alloc | apply pw_below_drewN | apply below_drew1) | exact HB.out)) hb); have n1_ := Aside0.mk (hbox); have n2_ := Aside0.mk ((by rw [hg]; exact (below_size (by repeat (first | (with_reducible first | exact HB.out | apply below_alloc | apply pw_below_drewN | apply below_drew1) | exact HB.out))) : w.heap.size ≤ gb185)); have n3_ := Aside0.mk ((by rw [hg]; exact (below_size (by repeat (first | (with_reducible first | exact HB.out | apply below_alloc | apply pw_below_drewN | apply below_drew1) | exact HB.out))) : w.heap.size ≤ gb185)); clear HB; have HB := n0_; have BK185 := n1_; have GW185 := n2_; have GE185 := n3_; clear n0_ n1_ n2_ n3_; clear hb hbox hg; have hcz5_0 : w4.cell? ⟨gb185, 0, none⟩ = some (.int .u8 a0_0) := (blk_cell BK185.out 0).trans rfl; have hcz5_1 : w4.cell? ⟨gb185, 1, none⟩ = some (.int .u8 a0_1) := (blk_cell BK185.out 1).trans rfl; have hcz5_2 : w4.cell? ⟨gb185, 2, none⟩ = some (.int .u8 a0_2) := (blk_cell BK185.out 2).trans rfl; have hcz5_3 : w4.cell? ⟨gb185, 3, none⟩ = some (.int .u8 a0_3) := (blk_cell BK185.out 3).trans rfl; have hcz5_4 : w4.cell? ⟨gb185, 4, none⟩ = some (.int .i32 a0_4) := (blk_cell BK185.out 4).trans rfl; have hfz5_0 := blk_frozen BK185.out 0; have hfz5_1 := blk_frozen BK185.out 1; have hfz5_2 := blk_frozen BK185.out 2; have hfz5_3 := blk_frozen BK185.out 3; have hfz5_4 := blk_frozen BK185.out 4) | (go_at_call 101; (with_reducible refine (bulwarkref05_row.calls k a0_0 t186 t187 t188 t189 t190 t191 t192 _ A2.out).mono ?_); rintro e w6 ⟨rfl, hb⟩; have n0_ := Aside0.mk (blk_below (g := gb185) (o := .cells #[.int .u8 a0_0, .int .u8 a0_1, .int .u8 a0_2, .int .u8 a0_3, .int .i32 a0_4] 63 (0, 0)) (by (with_reducible repeat (first | refine blk_drewN ?_ _ | refine blk_drew ?_ | refine blk_alloc ?_ _)); exact BK185.out) hb); have n1_ := Aside0.mk (below_step (by repeat (first | (with_reducible first | exact HB.out | apply below_alloc | apply pw_below_drewN | apply below_drew1 | refine below_set ?_ GE185.out) | exact HB.out)) hb); clear BK185; clear HB; have BK185 := n0_; have HB := n1_; clear n0_ n1_; (try clear hb); (try clear hb2); (try clear hk); (try clear hi)) | ((with_reducible refine gate_dst (N := 4) rfl ?_); refine box_event ?hg (N := 4) ?hd (cs := #[.int .u8 0, .string (⟨#[]⟩ : ByteArray), .int .i64 0, .int .u32 0, .int .u32 0, .int .u32 0]) (t := 119) ?hr ?_; (case hd => rfl); (case hg => rfl); (case hr => first | (go_simp; done) | (go_simp; rfl)); intro gb193 hg w7 hbox hb; have n0_ := Aside0.mk (blk_below (g := gb185) (o := .cells #[.int .u8 a0_0, .int .u8 a0_1, .int .u8 a0_2, .int .u8 a0_3, .int .i32 a0_4] 63 (0, 0)) (by (with_reducible repeat (first | refine blk_drewN ?_ _ | refine blk_drew ?_ | refine blk_alloc ?_ _)); exact BK185.out) hb); have n1_ := Aside0.mk (below_step (by repeat (first | (with_reducible first | exact HB.out | apply below_alloc | apply pw_below_drewN | apply below_drew1 | refine below_set ?_ GE185.out) | exact HB.out)) hb); have n2_ := Aside0.mk (hbox); have n3_ := Aside0.mk ((by rw [hg]; exact (below_size (by repeat (first | (with_reducible first | exact HB.out | apply below_alloc | apply pw_below_drewN | apply below_drew1 | refine below_set ?_ GE185.out) | exact HB.out))) : w.heap.size ≤ gb193)); have n4_ := Aside0.mk ((by rw [hg]; exact (below_size (by repeat (first | (with_reducible first | exact HB.out | apply below_alloc | apply pw_below_drewN | apply below_drew1 | refine below_set ?_ GE185.out) | exact HB.out))) : w.heap.size ≤ gb193)); have n5_ := Aside0.mk ((by rw [hg]; exact Nat.ne_of_lt (blk_lt (g := gb185) (o := .cells #[.int .u8 a0_0, .int .u8 a0_1, .int .u8 a0_2, .int .u8 a0_3, .int .i32 a0_4] 63 (0, 0)) (by (with_reducible repeat (first | refine blk_drewN ?_ _ | refine blk_drew ?_ | refine blk_alloc ?_ _)); exact BK185.out)) : gb185 ≠ gb193)); have n6_ := Aside0.mk ((by rw [hg]; exact Nat.ne_of_gt (blk_lt (g := gb185) (o := .cells #[.int .u8 a0_0, .int .u8 a0_1, .int .u8 a0_2, .int .u8 a0_3, .int .i32 a0_4] 63 (0, 0)) (by (with_reducible repeat (first | refine blk_drewN ?_ _ | refine blk_drew ?_ | refine blk_alloc ?_ _)); exact BK185.out)) : gb193 ≠ gb185)); clear BK185; clear HB; have BK185 := n0_; have HB := n1_; have BK193 := n2_; have GW193 := n3_; have GE193 := n4_; have NB185_193 := n5_; have NB193_185 := n6_; clear n0_ n1_ n2_ n3_ n4_ n5_ n6_; clear hb hbox hg; have hnb8 := NB193_185.out; have hnc8 := NB185_193.out; have hcz9_0 : w7.cell? ⟨gb193, 0, none⟩ = some (.int .u8 0) := (blk_cell BK193.out 0).trans rfl; have hcz9_1 : w7.cell? ⟨gb193, 1, none⟩ = some (.string (⟨#[]⟩ : ByteArray)) := (blk_cell BK193.out 1).trans rfl; have hcz9_2 : w7.cell? ⟨gb193, 2, none⟩ = some (.int .i64 0) := (blk_cell BK193.out 2).trans rfl; have hcz9_3 : w7.cell? ⟨gb193, 3, none⟩ = some (.int .u32 0) := (blk_cell BK193.out 3).trans rfl; have hcz9_4 : w7.cell? ⟨gb193, 4, none⟩ = some (.int .u32 0) := (blk_cell BK193.out 4).trans rfl; have hcz9_5 : w7.cell? ⟨gb193, 5, none⟩ = some (.int .u32 0) := (blk_cell BK193.out 5).trans rfl; have hfz9_0 := blk_frozen BK193.out 0; have hfz9_1 := blk_frozen BK193.out 1; have hfz9_2 := blk_frozen BK193.out 2; have hfz9_3 := blk_frozen BK193.out 3; have hfz9_4 := blk_frozen BK193.out 4; have hfz9_5 := blk_frozen BK193.out 5)))
  (try simp only [Act.put, List.setIfInBounds_toArray, List.set_cons_zero, List.set_cons_succ])
  go_cut [24] (fun v24 wc => ∃ (kq : Nat) (x24_2 : Bool), v24 = .bool x24_2 ∧ Aside0 (bulwarkref05_Put.j0 kq x24_2 a0_0 a0_1 a0_2 a0_3 a0_4 t186 t187 t188 t189 t190 t191 = some (r1, r2)) ∧ Aside0 (kq ≤ k) ∧ Aside0 (wc.heap[gb185]? = some (.cells #[.int .u8 a0_0, .int .u8 a0_1, .int .u8 a0_2, .int .u8 a0_3, .int .i32 a0_4] 63 (0, 0))) ∧ Aside0 (wc.heap[gb193]? = some (.cells #[.int .u8 t186, .string t187, .int .i64 t188, .int .u32 t189, .int .u32 t190, .int .u32 t191] 119 (0, 0))) ∧ Aside0 (Below w.heap.size w wc))
  case first =>
    have H := HC3.out
    clear HC3
    by_cases c10 : t192 = true
    · subst c10
      have H1 : ((bulwarkref05_fields.f k t186 t187 t188 t189 t190 t191 a0_0 a0_1 a0_2 a0_3 a0_4).bind fun t194 => (bulwarkref05_Put.j0 k (!t194) a0_0 a0_1 a0_2 a0_3 a0_4 t186 t187 t188 t189 t190 t191)) = some (r1, r2) := by rw [if_pos rfl] at H; exact H
      clear H
      have H := H1
      clear H1
      replace H := Option.bind_eq_some_iff.mp H
      obtain ⟨t194, A110, H⟩ := H
      replace H : (bulwarkref05_Put.j0 k (!t194) a0_0 a0_1 a0_2 a0_3 a0_4 t186 t187 t188 t189 t190 t191) = some (r1, r2) := H
      have A11 := Aside0.mk A110
      clear A110
      have H' := Aside0.mk H
      clear H
      have hnb12 := NB193_185.out
      have hnc12 := NB185_193.out
      have hcz13_0 : w7.cell? ⟨gb193, 0, none⟩ = some (.int .u8 0) := (blk_cell BK193.out 0).trans rfl
      have hcz13_1 : w7.cell? ⟨gb193, 1, none⟩ = some (.string (⟨#[]⟩ : ByteArray)) := (blk_cell BK193.out 1).trans rfl
      have hcz13_2 : w7.cell? ⟨gb193, 2, none⟩ = some (.int .i64 0) := (blk_cell BK193.out 2).trans rfl
      have hcz13_3 : w7.cell? ⟨gb193, 3, none⟩ = some (.int .u32 0) := (blk_cell BK193.out 3).trans rfl
      have hcz13_4 : w7.cell? ⟨gb193, 4, none⟩ = some (.int .u32 0) := (blk_cell BK193.out 4).trans rfl
      have hcz13_5 : w7.cell? ⟨gb193, 5, none⟩ = some (.int .u32 0) := (blk_cell BK193.out 5).trans rfl
      have hfz13_0 := blk_frozen BK193.out 0
      have hfz13_1 := blk_frozen BK193.out 1
      have hfz13_2 := blk_frozen BK193.out 2
      have hfz13_3 := blk_frozen BK193.out 3
      have hfz13_4 := blk_frozen BK193.out 4
      have hfz13_5 := blk_frozen BK193.out 5
      have hcz14_0 : w7.cell? ⟨gb185, 0, none⟩ = some (.int .u8 a0_0) := (blk_cell BK185.out 0).trans rfl
      have hcz14_1 : w7.cell? ⟨gb185, 1, none⟩ = some (.int .u8 a0_1) := (blk_cell BK185.out 1).trans rfl
      have hcz14_2 : w7.cell? ⟨gb185, 2, none⟩ = some (.int .u8 a0_2) := (blk_cell BK185.out 2).trans rfl
      have hcz14_3 : w7.cell? ⟨gb185, 3, none⟩ = some (.int .u8 a0_3) := (blk_cell BK185.out 3).trans rfl
      have hcz14_4 : w7.cell? ⟨gb185, 4, none⟩ = some (.int .i32 a0_4) := (blk_cell BK185.out 4).trans rfl
      have hfz14_0 := blk_frozen BK185.out 0
      have hfz14_1 := blk_frozen BK185.out 1
      have hfz14_2 := blk_frozen BK185.out 2
      have hfz14_3 := blk_frozen BK185.out 3
      have hfz14_4 := blk_frozen BK185.out 4
      go_wp2_with (first | (go_at_call 102; (with_reducible refine (bulwarkref05_fields.calls k t186 t187 t188 t189 t190 t191 a0_0 a0_1 a0_2 a0_3 a0_4 t194 _ A11.out).mono ?_); rintro e w15 ⟨rfl, hb⟩; have n0_ := Aside0.mk (blk_below (g := gb185) (o := .cells #[.int .u8 a0_0, .int .u8 a0_1, .int .u8 a0_2, .int .u8 a0_3, .int .i32 a0_4] 63 (0, 0)) (by (with_reducible repeat (first | refine blk_drewN ?_ _ | refine blk_drew ?_ | refine blk_alloc ?_ _)); refine blk_far ?_ NB185_193.out _; (with_reducible repeat (first | refine blk_drewN ?_ _ | refine blk_drew ?_ | refine blk_alloc ?_ _)); refine blk_far ?_ NB185_193.out _; (with_reducible repeat (first | refine blk_drewN ?_ _ | refine blk_drew ?_ | refine blk_alloc ?_ _)); refine blk_far ?_ NB185_193.out _; (with_reducible repeat (first | refine blk_drewN ?_ _ | refine blk_drew ?_ | refine blk_alloc ?_ _)); refine blk_far ?_ NB185_193.out _; (with_reducible repeat (first | refine blk_drewN ?_ _ | refine blk_drew ?_ | refine blk_alloc ?_ _)); refine blk_far ?_ NB185_193.out _; (with_reducible repeat (first | refine blk_drewN ?_ _ | refine blk_drew ?_ | refine blk_alloc ?_ _)); refine blk_far ?_ NB185_193.out _; (with_reducible repeat (first | refine blk_drewN ?_ _ | refine blk_drew ?_ | refine blk_alloc ?_ _)); exact BK185.out) hb); have n1_ := Aside0.mk (blk_below (g := gb193) (o := .cells #[.int .u8 t186, .string t187, .int .i64 t188, .int .u32 t189, .int .u32 t190, .int .u32 t191] 119 (0, 0)) (by (with_reducible repeat (first | refine blk_drewN ?_ _ | refine blk_drew ?_ | refine blk_alloc ?_ _)); refine blk_put (cs := #[.int .u8 t186, .string t187, .int .i64 t188, .int .u32 t189, .int .u32 t190, .int .u32 0]) ?_ 5 _ rfl; (with_reducible repeat (first | refine blk_drewN ?_ _ | refine blk_drew ?_ | refine blk_alloc ?_ _)); refine blk_put (cs := #[.int .u8 t186, .string t187, .int .i64 t188, .int .u32 t189, .int .u32 0, .int .u32 0]) ?_ 4 _ rfl; (with_reducible repeat (first | refine blk_drewN ?_ _ | refine blk_drew ?_ | refine blk_alloc ?_ _)); refine blk_put (cs := #[.int .u8 t186, .string t187, .int .i64 t188, .int .u32 0, .int .u32 0, .int .u32 0]) ?_ 3 _ rfl; (with_reducible repeat (first | refine blk_drewN ?_ _ | refine blk_drew ?_ | refine blk_alloc ?_ _)); refine blk_put (cs := #[.int .u8 t186, .string t187, .int .i64 0, .int .u32 0, .int .u32 0, .int .u32 0]) ?_ 2 _ rfl; (with_reducible repeat (first | refine blk_drewN ?_ _ | refine blk_drew ?_ | refine blk_alloc ?_ _)); refine blk_put (cs := #[.int .u8 t186, .string (⟨#[]⟩ : ByteArray), .int .i64 0, .int .u32 0, .int .u32 0, .int .u32 0]) ?_ 1 _ rfl; (with_reducible repeat (first | refine blk_drewN ?_ _ | refine blk_drew ?_ | refine blk_alloc ?_ _)); refine blk_put (cs := #[.int .u8 0, .string (⟨#[]⟩ : ByteArray), .int .i64 0, .int .u32 0, .int .u32 0, .int .u32 0]) ?_ 0 _ rfl; (with_reducible repeat (first | refine blk_drewN ?_ _ | refine blk_drew ?_ | refine blk_alloc ?_ _)); exact BK193.out) hb); have n2_ := Aside0.mk (below_step (by repeat (first | (with_reducible first | exact HB.out | apply below_alloc | apply pw_below_drewN | apply below_drew1 | refine below_set ?_ GE185.out | refine below_set ?_ GE193.out) | exact HB.out)) hb); clear BK185; clear BK193; clear HB; have BK185 := n0_; have BK193 := n1_; have HB := n2_; clear n0_ n1_ n2_; (try clear hb); (try clear hb2); (try clear hk); (try clear hi)))
      repeat (go_quiet (first | (go_at_call 102; (with_reducible refine (bulwarkref05_fields.calls k t186 t187 t188 t189 t190 t191 a0_0 a0_1 a0_2 a0_3 a0_4 t194 _ A11.out).mono ?_); rintro e w15 ⟨rfl, hb⟩; have n0_ := Aside0.mk (blk_below (g := gb185) (o := .cells #[.int .u8 a0_0, .int .u8 a0_1, .int .u8 a0_2, .int .u8 a0_3, .int .i32 a0_4] 63 (0, 0)) (by (with_reducible repeat (first | refine blk_drewN ?_ _ | refine blk_drew ?_ | refine blk_alloc ?_ _)); refine blk_far ?_ NB185_193.out _; (with_reducible repeat (first | refine blk_drewN ?_ _ | refine blk_drew ?_ | refine blk_alloc ?_ _)); refine blk_far ?_ NB185_193.out _; (with_reducible repeat (first | refine blk_drewN ?_ _ | refine blk_drew ?_ | refine blk_alloc ?_ _)); refine blk_far ?_ NB185_193.out _; (with_reducible repeat (first | refine blk_drewN ?_ _ | refine blk_drew ?_ | refine blk_alloc ?_ _)); refine blk_far ?_ NB185_193.out _; (with_reducible repeat (first | refine blk_drewN ?_ _ | refine blk_drew ?_ | refine blk_alloc ?_ _)); refine blk_far ?_ NB185_193.out _; (with_reducible repeat (first | refine blk_drewN ?_ _ | refine blk_drew ?_ | refine blk_alloc ?_ _)); refine blk_far ?_ NB185_193.out _; (with_reducible repeat (first | refine blk_drewN ?_ _ | refine blk_drew ?_ | refine blk_alloc ?_ _)); exact BK185.out) hb); have n1_ := Aside0.mk (blk_below (g := gb193) (o := .cells #[.int .u8 t186, .string t187, .int .i64 t188, .int .u32 t189, .int .u32 t190, .int .u32 t191] 119 (0, 0)) (by (with_reducible repeat (first | refine blk_drewN ?_ _ | refine blk_drew ?_ | refine blk_alloc ?_ _)); refine blk_put (cs := #[.int .u8 t186, .string t187, .int .i64 t188, .int .u32 t189, .int .u32 t190, .int .u32 0]) ?_ 5 _ rfl; (with_reducible repeat (first | refine blk_drewN ?_ _ | refine blk_drew ?_ | refine blk_alloc ?_ _)); refine blk_put (cs := #[.int .u8 t186, .string t187, .int .i64 t188, .int .u32 t189, .int .u32 0, .int .u32 0]) ?_ 4 _ rfl; (with_reducible repeat (first | refine blk_drewN ?_ _ | refine blk_drew ?_ | refine blk_alloc ?_ _)); refine blk_put (cs := #[.int .u8 t186, .string t187, .int .i64 t188, .int .u32 0, .int .u32 0, .int .u32 0]) ?_ 3 _ rfl; (with_reducible repeat (first | refine blk_drewN ?_ _ | refine blk_drew ?_ | refine blk_alloc ?_ _)); refine blk_put (cs := #[.int .u8 t186, .string t187, .int .i64 0, .int .u32 0, .int .u32 0, .int .u32 0]) ?_ 2 _ rfl; (with_reducible repeat (first | refine blk_drewN ?_ _ | refine blk_drew ?_ | refine blk_alloc ?_ _)); refine blk_put (cs := #[.int .u8 t186, .string (⟨#[]⟩ : ByteArray), .int .i64 0, .int .u32 0, .int .u32 0, .int .u32 0]) ?_ 1 _ rfl; (with_reducible repeat (first | refine blk_drewN ?_ _ | refine blk_drew ?_ | refine blk_alloc ?_ _)); refine blk_put (cs := #[.int .u8 0, .string (⟨#[]⟩ : ByteArray), .int .i64 0, .int .u32 0, .int .u32 0, .int .u32 0]) ?_ 0 _ rfl; (with_reducible repeat (first | refine blk_drewN ?_ _ | refine blk_drew ?_ | refine blk_alloc ?_ _)); exact BK193.out) hb); have n2_ := Aside0.mk (below_step (by repeat (first | (with_reducible first | exact HB.out | apply below_alloc | apply pw_below_drewN | apply below_drew1 | refine below_set ?_ GE185.out | refine below_set ?_ GE193.out) | exact HB.out)) hb); clear BK185; clear BK193; clear HB; have BK185 := n0_; have BK193 := n1_; have HB := n2_; clear n0_ n1_ n2_; (try clear hb); (try clear hb2); (try clear hk); (try clear hi))); try go_wp2_with (first | (go_at_call 102; (with_reducible refine (bulwarkref05_fields.calls k t186 t187 t188 t189 t190 t191 a0_0 a0_1 a0_2 a0_3 a0_4 t194 _ A11.out).mono ?_); rintro e w15 ⟨rfl, hb⟩; have n0_ := Aside0.mk (blk_below (g := gb185) (o := .cells #[.int .u8 a0_0, .int .u8 a0_1, .int .u8 a0_2, .int .u8 a0_3, .int .i32 a0_4] 63 (0, 0)) (by (with_reducible repeat (first | refine blk_drewN ?_ _ | refine blk_drew ?_ | refine blk_alloc ?_ _)); refine blk_far ?_ NB185_193.out _; (with_reducible repeat (first | refine blk_drewN ?_ _ | refine blk_drew ?_ | refine blk_alloc ?_ _)); refine blk_far ?_ NB185_193.out _; (with_reducible repeat (first | refine blk_drewN ?_ _ | refine blk_drew ?_ | refine blk_alloc ?_ _)); refine blk_far ?_ NB185_193.out _; (with_reducible repeat (first | refine blk_drewN ?_ _ | refine blk_drew ?_ | refine blk_alloc ?_ _)); refine blk_far ?_ NB185_193.out _; (with_reducible repeat (first | refine blk_drewN ?_ _ | refine blk_drew ?_ | refine blk_alloc ?_ _)); refine blk_far ?_ NB185_193.out _; (with_reducible repeat (first | refine blk_drewN ?_ _ | refine blk_drew ?_ | refine blk_alloc ?_ _)); refine blk_far ?_ NB185_193.out _; (with_reducible repeat (first | refine blk_drewN ?_ _ | refine blk_drew ?_ | refine blk_alloc ?_ _)); exact BK185.out) hb); have n1_ := Aside0.mk (blk_below (g := gb193) (o := .cells #[.int .u8 t186, .string t187, .int .i64 t188, .int .u32 t189, .int .u32 t190, .int .u32 t191] 119 (0, 0)) (by (with_reducible repeat (first | refine blk_drewN ?_ _ | refine blk_drew ?_ | refine blk_alloc ?_ _)); refine blk_put (cs := #[.int .u8 t186, .string t187, .int .i64 t188, .int .u32 t189, .int .u32 t190, .int .u32 0]) ?_ 5 _ rfl; (with_reducible repeat (first | refine blk_drewN ?_ _ | refine blk_drew ?_ | refine blk_alloc ?_ _)); refine blk_put (cs := #[.int .u8 t186, .string t187, .int .i64 t188, .int .u32 t189, .int .u32 0, .int .u32 0]) ?_ 4 _ rfl; (with_reducible repeat (first | refine blk_drewN ?_ _ | refine blk_drew ?_ | refine blk_alloc ?_ _)); refine blk_put (cs := #[.int .u8 t186, .string t187, .int .i64 t188, .int .u32 0, .int .u32 0, .int .u32 0]) ?_ 3 _ rfl; (with_reducible repeat (first | refine blk_drewN ?_ _ | refine blk_drew ?_ | refine blk_alloc ?_ _)); refine blk_put (cs := #[.int .u8 t186, .string t187, .int .i64 0, .int .u32 0, .int .u32 0, .int .u32 0]) ?_ 2 _ rfl; (with_reducible repeat (first | refine blk_drewN ?_ _ | refine blk_drew ?_ | refine blk_alloc ?_ _)); refine blk_put (cs := #[.int .u8 t186, .string (⟨#[]⟩ : ByteArray), .int .i64 0, .int .u32 0, .int .u32 0, .int .u32 0]) ?_ 1 _ rfl; (with_reducible repeat (first | refine blk_drewN ?_ _ | refine blk_drew ?_ | refine blk_alloc ?_ _)); refine blk_put (cs := #[.int .u8 0, .string (⟨#[]⟩ : ByteArray), .int .i64 0, .int .u32 0, .int .u32 0, .int .u32 0]) ?_ 0 _ rfl; (with_reducible repeat (first | refine blk_drewN ?_ _ | refine blk_drew ?_ | refine blk_alloc ?_ _)); exact BK193.out) hb); have n2_ := Aside0.mk (below_step (by repeat (first | (with_reducible first | exact HB.out | apply below_alloc | apply pw_below_drewN | apply below_drew1 | refine below_set ?_ GE185.out | refine below_set ?_ GE193.out) | exact HB.out)) hb); clear BK185; clear BK193; clear HB; have BK185 := n0_; have BK193 := n1_; have HB := n2_; clear n0_ n1_ n2_; (try clear hb); (try clear hb2); (try clear hk); (try clear hi))))
      go_meet
      case rel => exact ⟨_, (!t194), (by first | rfl | (simp; done) | (simp [*]; done)), H', ⟨by first | omega | exact Nat.le_refl _⟩, ⟨by (with_reducible repeat (first | refine blk_drewN ?_ _ | refine blk_drew ?_ | refine blk_alloc ?_ _)); exact BK185.out⟩, ⟨by (with_reducible repeat (first | refine blk_drewN ?_ _ | refine blk_drew ?_ | refine blk_alloc ?_ _)); exact BK193.out⟩, ⟨by repeat (first | (with_reducible first | exact HB.out | apply below_alloc | apply pw_below_drewN | apply below_drew1 | refine below_set ?_ GE185.out | refine below_set ?_ GE193.out) | exact HB.out)⟩⟩
    · replace c10 := Bool.eq_false_iff.mpr c10
      subst c10
      have H1 : (bulwarkref05_Put.j0 k true a0_0 a0_1 a0_2 a0_3 a0_4 t186 t187 t188 t189 t190 t191) = some (r1, r2) := by rw [if_neg (show ¬ (false = true) by decide)] at H; exact H
      clear H
      have H := H1
      clear H1
      have H' := Aside0.mk H
      clear H
      go_wp2
      repeat (go_quiet (fail); try go_wp2)
      go_meet
      case rel => exact ⟨_, (true), (by first | rfl | (simp; done) | (simp [*]; done)), H', ⟨by first | omega | exact Nat.le_refl _⟩, ⟨by (with_reducible repeat (first | refine blk_drewN ?_ _ | refine blk_drew ?_ | refine blk_alloc ?_ _)); refine blk_far ?_ NB185_193.out _; (with_reducible repeat (first | refine blk_drewN ?_ _ | refine blk_drew ?_ | refine blk_alloc ?_ _)); refine blk_far ?_ NB185_193.out _; (with_reducible repeat (first | refine blk_drewN ?_ _ | refine blk_drew ?_ | refine blk_alloc ?_ _)); refine blk_far ?_ NB185_193.out _; (with_reducible repeat (first | refine blk_drewN ?_ _ | refine blk_drew ?_ | refine blk_alloc ?_ _)); refine blk_far ?_ NB185_193.out _; (with_reducible repeat (first | refine blk_drewN ?_ _ | refine blk_drew ?_ | refine blk_alloc ?_ _)); refine blk_far ?_ NB185_193.out _; (with_reducible repeat (first | refine blk_drewN ?_ _ | refine blk_drew ?_ | refine blk_alloc ?_ _)); refine blk_far ?_ NB185_193.out _; (with_reducible repeat (first | refine blk_drewN ?_ _ | refine blk_drew ?_ | refine blk_alloc ?_ _)); exact BK185.out⟩, ⟨by (with_reducible repeat (first | refine blk_drewN ?_ _ | refine blk_drew ?_ | refine blk_alloc ?_ _)); refine blk_put (cs := #[.int .u8 t186, .string t187, .int .i64 t188, .int .u32 t189, .int .u32 t190, .int .u32 0]) ?_ 5 _ rfl; (with_reducible repeat (first | refine blk_drewN ?_ _ | refine blk_drew ?_ | refine blk_alloc ?_ _)); refine blk_put (cs := #[.int .u8 t186, .string t187, .int .i64 t188, .int .u32 t189, .int .u32 0, .int .u32 0]) ?_ 4 _ rfl; (with_reducible repeat (first | refine blk_drewN ?_ _ | refine blk_drew ?_ | refine blk_alloc ?_ _)); refine blk_put (cs := #[.int .u8 t186, .string t187, .int .i64 t188, .int .u32 0, .int .u32 0, .int .u32 0]) ?_ 3 _ rfl; (with_reducible repeat (first | refine blk_drewN ?_ _ | refine blk_drew ?_ | refine blk_alloc ?_ _)); refine blk_put (cs := #[.int .u8 t186, .string t187, .int .i64 0, .int .u32 0, .int .u32 0, .int .u32 0]) ?_ 2 _ rfl; (with_reducible repeat (first | refine blk_drewN ?_ _ | refine blk_drew ?_ | refine blk_alloc ?_ _)); refine blk_put (cs := #[.int .u8 t186, .string (⟨#[]⟩ : ByteArray), .int .i64 0, .int .u32 0, .int .u32 0, .int .u32 0]) ?_ 1 _ rfl; (with_reducible repeat (first | refine blk_drewN ?_ _ | refine blk_drew ?_ | refine blk_alloc ?_ _)); refine blk_put (cs := #[.int .u8 0, .string (⟨#[]⟩ : ByteArray), .int .i64 0, .int .u32 0, .int .u32 0, .int .u32 0]) ?_ 0 _ rfl; (with_reducible repeat (first | refine blk_drewN ?_ _ | refine blk_drew ?_ | refine blk_alloc ?_ _)); exact BK193.out⟩, ⟨by repeat (first | (with_reducible first | exact HB.out | apply below_alloc | apply pw_below_drewN | apply below_drew1 | refine below_set ?_ GE185.out | refine below_set ?_ GE193.out) | exact HB.out)⟩⟩
  case rest =>
    clear HC3
    try clear c1
    try clear p2
    try clear c6
    try clear c8
    try clear c10
    try clear c12
    try clear hcz13_0
    try clear hcz13_1
    try clear hcz13_2
    try clear hcz13_3
    try clear hcz13_4
    try clear hcz13_5
    try clear hcz14_0
    try clear hcz14_1
    try clear hcz14_2
    try clear hcz14_3
    try clear hcz14_4
    try clear hcz5_0
    try clear hcz5_1
    try clear hcz5_2
    try clear hcz5_3
    try clear hcz5_4
    try clear hcz9_0
    try clear hcz9_1
    try clear hcz9_2
    try clear hcz9_3
    try clear hcz9_4
    try clear hcz9_5
    try clear hfz13_0
    try clear hfz13_1
    try clear hfz13_2
    try clear hfz13_3
    try clear hfz13_4
    try clear hfz13_5
    try clear hfz14_0
    try clear hfz14_1
    try clear hfz14_2
    try clear hfz14_3
    try clear hfz14_4
    try clear hfz5_0
    try clear hfz5_1
    try clear hfz5_2
    try clear hfz5_3
    try clear hfz5_4
    try clear hfz9_0
    try clear hfz9_1
    try clear hfz9_2
    try clear hfz9_3
    try clear hfz9_4
    try clear hfz9_5
    obtain ⟨kq, x24_2, rfl, HA, HJ2, BK185, BK193, HB⟩ := hcut
    cases kq with
    | zero => exact absurd HA.out (by simp [bulwarkref05_Put.j0])
    | succ kj2 =>
      have H := HA.out
      clear HA
      simp only [bulwarkref05_Put.j0] at H
      by_cases c16 : x24_2 = true
      · subst c16
        have H1 : (some (0, 2)) = some (r1, r2) := by rw [if_pos rfl] at H; exact H
        clear H
        have H := H1
        clear H1
        simp only [Option.some.injEq, Prod.mk.injEq] at H
        obtain ⟨rfl, rfl⟩ := H
        go_wp2
        repeat (go_quiet (fail); try go_wp2)
        go_ret2
        exact ⟨by first | rfl | (simp [errW_none, errW_some] <;> rfl) | (simp [*, errW_none, errW_some] <;> rfl), by repeat (first | (with_reducible first | exact HB.out | apply below_alloc | apply pw_below_drewN | apply below_drew1 | refine below_set ?_ GE185.out | refine below_set ?_ GE193.out) | exact HB.out)⟩
      · replace c16 := Bool.eq_false_iff.mpr c16
        subst c16
        have H1 : (if t188 = 0 then (some (Go.bits .or .u32 (Go.bits .or .u32 (Go.bits .or .u32 t189 ((t190 * 4096) % 4294967296)) ((((a0_1) % 4294967296) * 128) % 4294967296)) ((a0_4) % 4294967296), 0)) else (if t188 = 1 then ((bulwarkref05_bits.f ((a0_4) % 4294967296) 20 1).bind fun t195 => ((bulwarkref05_bits.f ((a0_4) % 4294967296) 1 10).bind fun t196 => ((bulwarkref05_bits.f ((a0_4) % 4294967296) 11 1).bind fun t197 => ((bulwarkref05_bits.f ((a0_4) % 4294967296) 12 8).bind fun t198 => (some (Go.bits .or .u32 (Go.bits .or .u32 (Go.bits .or .u32 (Go.bits .or .u32 (Go.bits .or .u32 (Go.bits .or .u32 t189 ((t190 * 4096) % 4294967296)) ((((a0_1) % 4294967296) * 128) % 4294967296)) ((t195 * 2147483648) % 4294967296)) ((t196 * 2097152) % 4294967296)) ((t197 * 1048576) % 4294967296)) ((t198 * 4096) % 4294967296), 0)))))) else (if t188 = 2 then (bulwarkref05_Put.j1 kj2 ((a0_4) % 4294967296) ((((a0_1) % 4294967296) * 128) % 4294967296) ((((a0_2) % 4294967296) * 32768) % 4294967296) ((((a0_3) % 4294967296) * 1048576) % 4294967296) (Go.bits .or .u32 t189 ((t190 * 4096) % 4294967296)) t188 (t188 == 2) t186 t187 t188 t189 t190 t191) else (bulwarkref05_Put.j1 kj2 ((a0_4) % 4294967296) ((((a0_1) % 4294967296) * 128) % 4294967296) ((((a0_2) % 4294967296) * 32768) % 4294967296) ((((a0_3) % 4294967296) * 1048576) % 4294967296) (Go.bits .or .u32 t189 ((t190 * 4096) % 4294967296)) t188 (t188 == 3) t186 t187 t188 t189 t190 t191)))) = some (r1, r2) := by rw [if_neg (show ¬ (false = true) by decide)] at H; exact H
        clear H
        have H := H1
        clear H1
        by_cases c17 : t188 = 0
        · rw [if_pos c17] at H
          have c17b0 : (t188 == 0) = true := beq_iff_eq.mpr c17
          have c17b1 : (t188 != 0) = false := bne_eq_false_iff_eq.mpr c17
          clear c17
          simp only [Option.some.injEq, Prod.mk.injEq] at H
          obtain ⟨rfl, rfl⟩ := H
          have hnb18 := NB185_193.out
          have hnc18 := NB193_185.out
          have hcz19_0 : wc.cell? ⟨gb185, 0, none⟩ = some (.int .u8 a0_0) := (blk_cell BK185.out 0).trans rfl
          have hcz19_1 : wc.cell? ⟨gb185, 1, none⟩ = some (.int .u8 a0_1) := (blk_cell BK185.out 1).trans rfl
          have hcz19_2 : wc.cell? ⟨gb185, 2, none⟩ = some (.int .u8 a0_2) := (blk_cell BK185.out 2).trans rfl
          have hcz19_3 : wc.cell? ⟨gb185, 3, none⟩ = some (.int .u8 a0_3) := (blk_cell BK185.out 3).trans rfl
          have hcz19_4 : wc.cell? ⟨gb185, 4, none⟩ = some (.int .i32 a0_4) := (blk_cell BK185.out 4).trans rfl
          have hfz19_0 := blk_frozen BK185.out 0
          have hfz19_1 := blk_frozen BK185.out 1
          have hfz19_2 := blk_frozen BK185.out 2
          have hfz19_3 := blk_frozen BK185.out 3
          have hfz19_4 := blk_frozen BK185.out 4
          have hcz20_0 : wc.cell? ⟨gb193, 0, none⟩ = some (.int .u8 t186) := (blk_cell BK193.out 0).trans rfl
          have hcz20_1 : wc.cell? ⟨gb193, 1, none⟩ = some (.string t187) := (blk_cell BK193.out 1).trans rfl
          have hcz20_2 : wc.cell? ⟨gb193, 2, none⟩ = some (.int .i64 t188) := (blk_cell BK193.out 2).trans rfl
          have hcz20_3 : wc.cell? ⟨gb193, 3, none⟩ = some (.int .u32 t189) := (blk_cell BK193.out 3).trans rfl
          have hcz20_4 : wc.cell? ⟨gb193, 4, none⟩ = some (.int .u32 t190) := (blk_cell BK193.out 4).trans rfl
          have hcz20_5 : wc.cell? ⟨gb193, 5, none⟩ = some (.int .u32 t191) := (blk_cell BK193.out 5).trans rfl
          have hfz20_0 := blk_frozen BK193.out 0
          have hfz20_1 := blk_frozen BK193.out 1
          have hfz20_2 := blk_frozen BK193.out 2
          have hfz20_3 := blk_frozen BK193.out 3
          have hfz20_4 := blk_frozen BK193.out 4
          have hfz20_5 := blk_frozen BK193.out 5
          go_wp2
          repeat (go_quiet (fail); try go_wp2)
          go_ret2
          exact ⟨by first | rfl | (simp [errW_none, errW_some] <;> rfl) | (simp [*, errW_none, errW_some] <;> rfl), by repeat (first | (with_reducible first | exact HB.out | apply below_alloc | apply pw_below_drewN | apply below_drew1 | refine below_set ?_ GE185.out | refine below_set ?_ GE193.out) | exact HB.out)⟩
        · rw [if_neg c17] at H
          have c17b0 : (t188 == 0) = false := beq_eq_false_iff_ne.mpr c17
          have c17b1 : (t188 != 0) = true := bne_iff_ne.mpr c17
          by_cases c21 : t188 = 1
          · rw [if_pos c21] at H
            have c21b0 : (t188 == 1) = true := beq_iff_eq.mpr c21
            have c21b1 : (t188 != 1) = false := bne_eq_false_iff_eq.mpr c21
            clear c21
            replace H := Option.bind_eq_some_iff.mp H
            obtain ⟨t195, A220, H⟩ := H
            replace H : ((bulwarkref05_bits.f ((a0_4) % 4294967296) 1 10).bind fun t196 => ((bulwarkref05_bits.f ((a0_4) % 4294967296) 11 1).bind fun t197 => ((bulwarkref05_bits.f ((a0_4) % 4294967296) 12 8).bind fun t198 => (some (Go.bits .or .u32 (Go.bits .or .u32 (Go.bits .or .u32 (Go.bits .or .u32 (Go.bits .or .u32 (Go.bits .or .u32 t189 ((t190 * 4096) % 4294967296)) ((((a0_1) % 4294967296) * 128) % 4294967296)) ((t195 * 2147483648) % 4294967296)) ((t196 * 2097152) % 4294967296)) ((t197 * 1048576) % 4294967296)) ((t198 * 4096) % 4294967296), 0))))) = some (r1, r2) := H
            have A22 := Aside0.mk A220
            clear A220
            replace H := Option.bind_eq_some_iff.mp H
            obtain ⟨t196, A230, H⟩ := H
            replace H : ((bulwarkref05_bits.f ((a0_4) % 4294967296) 11 1).bind fun t197 => ((bulwarkref05_bits.f ((a0_4) % 4294967296) 12 8).bind fun t198 => (some (Go.bits .or .u32 (Go.bits .or .u32 (Go.bits .or .u32 (Go.bits .or .u32 (Go.bits .or .u32 (Go.bits .or .u32 t189 ((t190 * 4096) % 4294967296)) ((((a0_1) % 4294967296) * 128) % 4294967296)) ((t195 * 2147483648) % 4294967296)) ((t196 * 2097152) % 4294967296)) ((t197 * 1048576) % 4294967296)) ((t198 * 4096) % 4294967296), 0)))) = some (r1, r2) := H
            have A23 := Aside0.mk A230
            clear A230
            replace H := Option.bind_eq_some_iff.mp H
            obtain ⟨t197, A240, H⟩ := H
            replace H : ((bulwarkref05_bits.f ((a0_4) % 4294967296) 12 8).bind fun t198 => (some (Go.bits .or .u32 (Go.bits .or .u32 (Go.bits .or .u32 (Go.bits .or .u32 (Go.bits .or .u32 (Go.bits .or .u32 t189 ((t190 * 4096) % 4294967296)) ((((a0_1) % 4294967296) * 128) % 4294967296)) ((t195 * 2147483648) % 4294967296)) ((t196 * 2097152) % 4294967296)) ((t197 * 1048576) % 4294967296)) ((t198 * 4096) % 4294967296), 0))) = some (r1, r2) := H
            have A24 := Aside0.mk A240
            clear A240
            replace H := Option.bind_eq_some_iff.mp H
            obtain ⟨t198, A250, H⟩ := H
            replace H : (some (Go.bits .or .u32 (Go.bits .or .u32 (Go.bits .or .u32 (Go.bits .or .u32 (Go.bits .or .u32 (Go.bits .or .u32 t189 ((t190 * 4096) % 4294967296)) ((((a0_1) % 4294967296) * 128) % 4294967296)) ((t195 * 2147483648) % 4294967296)) ((t196 * 2097152) % 4294967296)) ((t197 * 1048576) % 4294967296)) ((t198 * 4096) % 4294967296), 0)) = some (r1, r2) := H
            have A25 := Aside0.mk A250
            clear A250
            simp only [Option.some.injEq, Prod.mk.injEq] at H
            obtain ⟨rfl, rfl⟩ := H
            have hnb26 := NB185_193.out
            have hnc26 := NB193_185.out
            have hcz27_0 : wc.cell? ⟨gb185, 0, none⟩ = some (.int .u8 a0_0) := (blk_cell BK185.out 0).trans rfl
            have hcz27_1 : wc.cell? ⟨gb185, 1, none⟩ = some (.int .u8 a0_1) := (blk_cell BK185.out 1).trans rfl
            have hcz27_2 : wc.cell? ⟨gb185, 2, none⟩ = some (.int .u8 a0_2) := (blk_cell BK185.out 2).trans rfl
            have hcz27_3 : wc.cell? ⟨gb185, 3, none⟩ = some (.int .u8 a0_3) := (blk_cell BK185.out 3).trans rfl
            have hcz27_4 : wc.cell? ⟨gb185, 4, none⟩ = some (.int .i32 a0_4) := (blk_cell BK185.out 4).trans rfl
            have hfz27_0 := blk_frozen BK185.out 0
            have hfz27_1 := blk_frozen BK185.out 1
            have hfz27_2 := blk_frozen BK185.out 2
            have hfz27_3 := blk_frozen BK185.out 3
            have hfz27_4 := blk_frozen BK185.out 4
            have hcz28_0 : wc.cell? ⟨gb193, 0, none⟩ = some (.int .u8 t186) := (blk_cell BK193.out 0).trans rfl
            have hcz28_1 : wc.cell? ⟨gb193, 1, none⟩ = some (.string t187) := (blk_cell BK193.out 1).trans rfl
            have hcz28_2 : wc.cell? ⟨gb193, 2, none⟩ = some (.int .i64 t188) := (blk_cell BK193.out 2).trans rfl
            have hcz28_3 : wc.cell? ⟨gb193, 3, none⟩ = some (.int .u32 t189) := (blk_cell BK193.out 3).trans rfl
            have hcz28_4 : wc.cell? ⟨gb193, 4, none⟩ = some (.int .u32 t190) := (blk_cell BK193.out 4).trans rfl
            have hcz28_5 : wc.cell? ⟨gb193, 5, none⟩ = some (.int .u32 t191) := (blk_cell BK193.out 5).trans rfl
            have hfz28_0 := blk_frozen BK193.out 0
            have hfz28_1 := blk_frozen BK193.out 1
            have hfz28_2 := blk_frozen BK193.out 2
            have hfz28_3 := blk_frozen BK193.out 3
            have hfz28_4 := blk_frozen BK193.out 4
            have hfz28_5 := blk_frozen BK193.out 5
            go_wp2_with (first | (go_at_call 67; (with_reducible refine (bulwarkref05_bits.calls ((a0_4) % 4294967296) 20 1 t195 _ A22.out).mono ?_); rintro e w' ⟨rfl, ⟨nd, rfl⟩⟩; (try first | exact ⟨rfl, _, World.drewN_drewN _ _ _⟩ | exact ⟨rfl, _, Eq.trans (World.drewN_drewN _ _ _) (congrArg (World.drewN _) (Nat.add_assoc _ _ _))⟩)) | (go_at_call 67; (with_reducible refine (bulwarkref05_bits.calls ((a0_4) % 4294967296) 1 10 t196 _ A23.out).mono ?_); rintro e w' ⟨rfl, ⟨nd, rfl⟩⟩; (try first | exact ⟨rfl, _, World.drewN_drewN _ _ _⟩ | exact ⟨rfl, _, Eq.trans (World.drewN_drewN _ _ _) (congrArg (World.drewN _) (Nat.add_assoc _ _ _))⟩)) | (go_at_call 67; (with_reducible refine (bulwarkref05_bits.calls ((a0_4) % 4294967296) 11 1 t197 _ A24.out).mono ?_); rintro e w' ⟨rfl, ⟨nd, rfl⟩⟩; (try first | exact ⟨rfl, _, World.drewN_drewN _ _ _⟩ | exact ⟨rfl, _, Eq.trans (World.drewN_drewN _ _ _) (congrArg (World.drewN _) (Nat.add_assoc _ _ _))⟩)) | (go_at_call 67; (with_reducible refine (bulwarkref05_bits.calls ((a0_4) % 4294967296) 12 8 t198 _ A25.out).mono ?_); rintro e w' ⟨rfl, ⟨nd, rfl⟩⟩; (try first | exact ⟨rfl, _, World.drewN_drewN _ _ _⟩ | exact ⟨rfl, _, Eq.trans (World.drewN_drewN _ _ _) (congrArg (World.drewN _) (Nat.add_assoc _ _ _))⟩)))
            repeat (go_quiet (first | (go_at_call 67; (with_reducible refine (bulwarkref05_bits.calls ((a0_4) % 4294967296) 20 1 t195 _ A22.out).mono ?_); rintro e w' ⟨rfl, ⟨nd, rfl⟩⟩; (try first | exact ⟨rfl, _, World.drewN_drewN _ _ _⟩ | exact ⟨rfl, _, Eq.trans (World.drewN_drewN _ _ _) (congrArg (World.drewN _) (Nat.add_assoc _ _ _))⟩)) | (go_at_call 67; (with_reducible refine (bulwarkref05_bits.calls ((a0_4) % 4294967296) 1 10 t196 _ A23.out).mono ?_); rintro e w' ⟨rfl, ⟨nd, rfl⟩⟩; (try first | exact ⟨rfl, _, World.drewN_drewN _ _ _⟩ | exact ⟨rfl, _, Eq.trans (World.drewN_drewN _ _ _) (congrArg (World.drewN _) (Nat.add_assoc _ _ _))⟩)) | (go_at_call 67; (with_reducible refine (bulwarkref05_bits.calls ((a0_4) % 4294967296) 11 1 t197 _ A24.out).mono ?_); rintro e w' ⟨rfl, ⟨nd, rfl⟩⟩; (try first | exact ⟨rfl, _, World.drewN_drewN _ _ _⟩ | exact ⟨rfl, _, Eq.trans (World.drewN_drewN _ _ _) (congrArg (World.drewN _) (Nat.add_assoc _ _ _))⟩)) | (go_at_call 67; (with_reducible refine (bulwarkref05_bits.calls ((a0_4) % 4294967296) 12 8 t198 _ A25.out).mono ?_); rintro e w' ⟨rfl, ⟨nd, rfl⟩⟩; (try first | exact ⟨rfl, _, World.drewN_drewN _ _ _⟩ | exact ⟨rfl, _, Eq.trans (World.drewN_drewN _ _ _) (congrArg (World.drewN _) (Nat.add_assoc _ _ _))⟩))); try go_wp2_with (first | (go_at_call 67; (with_reducible refine (bulwarkref05_bits.calls ((a0_4) % 4294967296) 20 1 t195 _ A22.out).mono ?_); rintro e w' ⟨rfl, ⟨nd, rfl⟩⟩; (try first | exact ⟨rfl, _, World.drewN_drewN _ _ _⟩ | exact ⟨rfl, _, Eq.trans (World.drewN_drewN _ _ _) (congrArg (World.drewN _) (Nat.add_assoc _ _ _))⟩)) | (go_at_call 67; (with_reducible refine (bulwarkref05_bits.calls ((a0_4) % 4294967296) 1 10 t196 _ A23.out).mono ?_); rintro e w' ⟨rfl, ⟨nd, rfl⟩⟩; (try first | exact ⟨rfl, _, World.drewN_drewN _ _ _⟩ | exact ⟨rfl, _, Eq.trans (World.drewN_drewN _ _ _) (congrArg (World.drewN _) (Nat.add_assoc _ _ _))⟩)) | (go_at_call 67; (with_reducible refine (bulwarkref05_bits.calls ((a0_4) % 4294967296) 11 1 t197 _ A24.out).mono ?_); rintro e w' ⟨rfl, ⟨nd, rfl⟩⟩; (try first | exact ⟨rfl, _, World.drewN_drewN _ _ _⟩ | exact ⟨rfl, _, Eq.trans (World.drewN_drewN _ _ _) (congrArg (World.drewN _) (Nat.add_assoc _ _ _))⟩)) | (go_at_call 67; (with_reducible refine (bulwarkref05_bits.calls ((a0_4) % 4294967296) 12 8 t198 _ A25.out).mono ?_); rintro e w' ⟨rfl, ⟨nd, rfl⟩⟩; (try first | exact ⟨rfl, _, World.drewN_drewN _ _ _⟩ | exact ⟨rfl, _, Eq.trans (World.drewN_drewN _ _ _) (congrArg (World.drewN _) (Nat.add_assoc _ _ _))⟩))))
            go_ret2
            exact ⟨by first | rfl | (simp [errW_none, errW_some] <;> rfl) | (simp [*, errW_none, errW_some] <;> rfl), by repeat (first | (with_reducible first | exact HB.out | apply below_alloc | apply pw_below_drewN | apply below_drew1 | refine below_set ?_ GE185.out | refine below_set ?_ GE193.out) | exact HB.out)⟩
          · rw [if_neg c21] at H
            have c21b0 : (t188 == 1) = false := beq_eq_false_iff_ne.mpr c21
            have c21b1 : (t188 != 1) = true := bne_iff_ne.mpr c21
            have HC29 := Aside0.mk H
            clear H
            have hnb30 := NB185_193.out
            have hnc30 := NB193_185.out
            have hcz31_0 : wc.cell? ⟨gb185, 0, none⟩ = some (.int .u8 a0_0) := (blk_cell BK185.out 0).trans rfl
            have hcz31_1 : wc.cell? ⟨gb185, 1, none⟩ = some (.int .u8 a0_1) := (blk_cell BK185.out 1).trans rfl
            have hcz31_2 : wc.cell? ⟨gb185, 2, none⟩ = some (.int .u8 a0_2) := (blk_cell BK185.out 2).trans rfl
            have hcz31_3 : wc.cell? ⟨gb185, 3, none⟩ = some (.int .u8 a0_3) := (blk_cell BK185.out 3).trans rfl
            have hcz31_4 : wc.cell? ⟨gb185, 4, none⟩ = some (.int .i32 a0_4) := (blk_cell BK185.out 4).trans rfl
            have hfz31_0 := blk_frozen BK185.out 0
            have hfz31_1 := blk_frozen BK185.out 1
            have hfz31_2 := blk_frozen BK185.out 2
            have hfz31_3 := blk_frozen BK185.out 3
            have hfz31_4 := blk_frozen BK185.out 4
            have hcz32_0 : wc.cell? ⟨gb193, 0, none⟩ = some (.int .u8 t186) := (blk_cell BK193.out 0).trans rfl
            have hcz32_1 : wc.cell? ⟨gb193, 1, none⟩ = some (.string t187) := (blk_cell BK193.out 1).trans rfl
            have hcz32_2 : wc.cell? ⟨gb193, 2, none⟩ = some (.int .i64 t188) := (blk_cell BK193.out 2).trans rfl
            have hcz32_3 : wc.cell? ⟨gb193, 3, none⟩ = some (.int .u32 t189) := (blk_cell BK193.out 3).trans rfl
            have hcz32_4 : wc.cell? ⟨gb193, 4, none⟩ = some (.int .u32 t190) := (blk_cell BK193.out 4).trans rfl
            have hcz32_5 : wc.cell? ⟨gb193, 5, none⟩ = some (.int .u32 t191) := (blk_cell BK193.out 5).trans rfl
            have hfz32_0 := blk_frozen BK193.out 0
            have hfz32_1 := blk_frozen BK193.out 1
            have hfz32_2 := blk_frozen BK193.out 2
            have hfz32_3 := blk_frozen BK193.out 3
            have hfz32_4 := blk_frozen BK193.out 4
            have hfz32_5 := blk_frozen BK193.out 5
            go_upto_if 76 with (fail)
            repeat (go_quiet (fail); go_upto_if 76 with (fail))
            go_cut [76] (fun v76 wc => ∃ (kq : Nat) (x76_28 : Bool), v76 = .bool x76_28 ∧ Aside0 (bulwarkref05_Put.j1 kq ((a0_4) % 4294967296) ((((a0_1) % 4294967296) * 128) % 4294967296) ((((a0_2) % 4294967296) * 32768) % 4294967296) ((((a0_3) % 4294967296) * 1048576) % 4294967296) (Go.bits .or .u32 t189 ((t190 * 4096) % 4294967296)) t188 x76_28 t186 t187 t188 t189 t190 t191 = some (r1, r2)) ∧ Aside0 (kq ≤ kj2) ∧ Aside0 (wc.heap[gb185]? = some (.cells #[.int .u8 a0_0, .int .u8 a0_1, .int .u8 a0_2, .int .u8 a0_3, .int .i32 a0_4] 63 (0, 0))) ∧ Aside0 (wc.heap[gb193]? = some (.cells #[.int .u8 t186, .string t187, .int .i64 t188, .int .u32 t189, .int .u32 t190, .int .u32 t191] 119 (0, 0))) ∧ Aside0 (Below w.heap.size w wc))
            case first =>
              have H := HC29.out
              clear HC29
              by_cases c33 : t188 = 2
              · rw [if_pos c33] at H
                have c33b0 : (t188 == 2) = true := beq_iff_eq.mpr c33
                have c33b1 : (t188 != 2) = false := bne_eq_false_iff_eq.mpr c33
                clear c33
                (first | rw [c33b0] | (simp only [i64_w, i32_w]; rw [c33b0]) | skip)
                have H' := Aside0.mk H
                clear H
                go_wp2
                repeat (go_quiet (fail); try go_wp2)
                go_meet
                case rel => exact ⟨_, ((t188 == 2)), (by first | rfl | (simp; done) | (simp [*]; done)), H', ⟨by have := HJ2.out; first | omega | exact Nat.le_refl _⟩, ⟨by (with_reducible repeat (first | refine blk_drewN ?_ _ | refine blk_drew ?_ | refine blk_alloc ?_ _)); exact BK185.out⟩, ⟨by (with_reducible repeat (first | refine blk_drewN ?_ _ | refine blk_drew ?_ | refine blk_alloc ?_ _)); exact BK193.out⟩, ⟨by repeat (first | (with_reducible first | exact HB.out | apply below_alloc | apply pw_below_drewN | apply below_drew1 | refine below_set ?_ GE185.out | refine below_set ?_ GE193.out) | exact HB.out)⟩⟩
              · rw [if_neg c33] at H
                have c33b0 : (t188 == 2) = false := beq_eq_false_iff_ne.mpr c33
                have c33b1 : (t188 != 2) = true := bne_iff_ne.mpr c33
                (first | rw [c33b0] | (simp only [i64_w, i32_w]; rw [c33b0]) | skip)
                have H' := Aside0.mk H
                clear H
                go_wp2
                repeat (go_quiet (fail); try go_wp2)
                go_meet
                case rel => exact ⟨_, ((t188 == 3)), (by first | rfl | (simp; done) | (simp [*]; done)), H', ⟨by have := HJ2.out; first | omega | exact Nat.le_refl _⟩, ⟨by (with_reducible repeat (first | refine blk_drewN ?_ _ | refine blk_drew ?_ | refine blk_alloc ?_ _)); exact BK185.out⟩, ⟨by (with_reducible repeat (first | refine blk_drewN ?_ _ | refine blk_drew ?_ | refine blk_alloc ?_ _)); exact BK193.out⟩, ⟨by repeat (first | (with_reducible first | exact HB.out | apply below_alloc | apply pw_below_drewN | apply below_drew1 | refine below_set ?_ GE185.out | refine below_set ?_ GE193.out) | exact HB.out)⟩⟩
            case rest =>
              clear HC29
              try clear c1
              try clear c2
              try clear p2
              try clear c3
              try clear c6
              try clear c8
              try clear c10
              try clear c12
              try clear c16
              try clear c17
              try clear c17b0
              try clear c17b1
              try clear c18
              try clear c21
              try clear c21b0
              try clear c21b1
              try clear c26
              try clear c30
              try clear c33
              try clear c33b0
              try clear c33b1
              try clear hcz13_0
              try clear hcz13_1
              try clear hcz13_2
              try clear hcz13_3
              try clear hcz13_4
              try clear hcz13_5
              try clear hcz14_0
              try clear hcz14_1
              try clear hcz14_2
              try clear hcz14_3
              try clear hcz14_4
              try clear hcz19_0
              try clear hcz19_1
              try clear hcz19_2
              try clear hcz19_3
              try clear hcz19_4
              try clear hcz20_0
              try clear hcz20_1
              try clear hcz20_2
              try clear hcz20_3
              try clear hcz20_4
              try clear hcz20_5
              try clear hcz27_0
              try clear hcz27_1
              try clear hcz27_2
              try clear hcz27_3
              try clear hcz27_4
              try clear hcz28_0
              try clear hcz28_1
              try clear hcz28_2
              try clear hcz28_3
              try clear hcz28_4
              try clear hcz28_5
              try clear hcz31_0
              try clear hcz31_1
              try clear hcz31_2
              try clear hcz31_3
              try clear hcz31_4
              try clear hcz32_0
              try clear hcz32_1
              try clear hcz32_2
              try clear hcz32_3
              try clear hcz32_4
              try clear hcz32_5
              try clear hcz5_0
              try clear hcz5_1
              try clear hcz5_2
              try clear hcz5_3
              try clear hcz5_4
              try clear hcz9_0
              try clear hcz9_1
              try clear hcz9_2
              try clear hcz9_3
              try clear hcz9_4
              try clear hcz9_5
              try clear hfz13_0
              try clear hfz13_1
              try clear hfz13_2
              try clear hfz13_3
              try clear hfz13_4
              try clear hfz13_5
              try clear hfz14_0
              try clear hfz14_1
              try clear hfz14_2
              try clear hfz14_3
              try clear hfz14_4
              try clear hfz19_0
              try clear hfz19_1
              try clear hfz19_2
              try clear hfz19_3
              try clear hfz19_4
              try clear hfz20_0
              try clear hfz20_1
              try clear hfz20_2
              try clear hfz20_3
              try clear hfz20_4
              try clear hfz20_5
              try clear hfz27_0
              try clear hfz27_1
              try clear hfz27_2
              try clear hfz27_3
              try clear hfz27_4
              try clear hfz28_0
              try clear hfz28_1
              try clear hfz28_2
              try clear hfz28_3
              try clear hfz28_4
              try clear hfz28_5
              try clear hfz31_0
              try clear hfz31_1
              try clear hfz31_2
              try clear hfz31_3
              try clear hfz31_4
              try clear hfz32_0
              try clear hfz32_1
              try clear hfz32_2
              try clear hfz32_3
              try clear hfz32_4
              try clear hfz32_5
              try clear hfz5_0
              try clear hfz5_1
              try clear hfz5_2
              try clear hfz5_3
              try clear hfz5_4
              try clear hfz9_0
              try clear hfz9_1
              try clear hfz9_2
              try clear hfz9_3
              try clear hfz9_4
              try clear hfz9_5
              try clear p2
              obtain ⟨kq, x76_28, rfl, HA, HJ28, BK185, BK193, HB⟩ := hcut
              cases kq with
              | zero => exact absurd HA.out (by simp [bulwarkref05_Put.j1])
              | succ kj28 =>
                have H := HA.out
                clear HA
                simp only [bulwarkref05_Put.j1] at H
                by_cases c34 : x76_28 = true
                · subst c34
                  have H1 : ((bulwarkref05_bits.f ((a0_4) % 4294967296) 0 12).bind fun t199 => (some (Go.bits .or .u32 (Go.bits .or .u32 (Go.bits .or .u32 (Go.bits .or .u32 t189 ((t190 * 4096) % 4294967296)) ((((a0_1) % 4294967296) * 128) % 4294967296)) ((((a0_2) % 4294967296) * 32768) % 4294967296)) ((t199 * 1048576) % 4294967296), 0))) = some (r1, r2) := by rw [if_pos rfl] at H; exact H
                  clear H
                  have H := H1
                  clear H1
                  replace H := Option.bind_eq_some_iff.mp H
                  obtain ⟨t199, A350, H⟩ := H
                  replace H : (some (Go.bits .or .u32 (Go.bits .or .u32 (Go.bits .or .u32 (Go.bits .or .u32 t189 ((t190 * 4096) % 4294967296)) ((((a0_1) % 4294967296) * 128) % 4294967296)) ((((a0_2) % 4294967296) * 32768) % 4294967296)) ((t199 * 1048576) % 4294967296), 0)) = some (r1, r2) := H
                  have A35 := Aside0.mk A350
                  clear A350
                  simp only [Option.some.injEq, Prod.mk.injEq] at H
                  obtain ⟨rfl, rfl⟩ := H
                  go_wp2_with (first | (go_at_call 67; (with_reducible refine (bulwarkref05_bits.calls ((a0_4) % 4294967296) 0 12 t199 _ A35.out).mono ?_); rintro e w' ⟨rfl, ⟨nd, rfl⟩⟩; (try first | exact ⟨rfl, _, World.drewN_drewN _ _ _⟩ | exact ⟨rfl, _, Eq.trans (World.drewN_drewN _ _ _) (congrArg (World.drewN _) (Nat.add_assoc _ _ _))⟩)))
                  repeat (go_quiet (first | (go_at_call 67; (with_reducible refine (bulwarkref05_bits.calls ((a0_4) % 4294967296) 0 12 t199 _ A35.out).mono ?_); rintro e w' ⟨rfl, ⟨nd, rfl⟩⟩; (try first | exact ⟨rfl, _, World.drewN_drewN _ _ _⟩ | exact ⟨rfl, _, Eq.trans (World.drewN_drewN _ _ _) (congrArg (World.drewN _) (Nat.add_assoc _ _ _))⟩))); try go_wp2_with (first | (go_at_call 67; (with_reducible refine (bulwarkref05_bits.calls ((a0_4) % 4294967296) 0 12 t199 _ A35.out).mono ?_); rintro e w' ⟨rfl, ⟨nd, rfl⟩⟩; (try first | exact ⟨rfl, _, World.drewN_drewN _ _ _⟩ | exact ⟨rfl, _, Eq.trans (World.drewN_drewN _ _ _) (congrArg (World.drewN _) (Nat.add_assoc _ _ _))⟩))))
                  go_ret2
                  exact ⟨by first | rfl | (simp [errW_none, errW_some] <;> rfl) | (simp [*, errW_none, errW_some] <;> rfl), by repeat (first | (with_reducible first | exact HB.out | apply below_alloc | apply pw_below_drewN | apply below_drew1 | refine below_set ?_ GE185.out | refine below_set ?_ GE193.out) | exact HB.out)⟩
                · replace c34 := Bool.eq_false_iff.mpr c34
                  subst c34
                  have H1 : (if t188 = 4 then (some (Go.bits .or .u32 (Go.bits .or .u32 (Go.bits .or .u32 (Go.bits .or .u32 (Go.bits .or .u32 t189 ((t190 * 4096) % 4294967296)) ((((a0_1) % 4294967296) * 128) % 4294967296)) ((((a0_2) % 4294967296) * 32768) % 4294967296)) ((((a0_4) % 4294967296) * 1048576) % 4294967296)) ((t191 * 33554432) % 4294967296), 0)) else (if t188 = 5 then ((bulwarkref05_bits.f ((a0_4) % 4294967296) 0 5).bind fun t200 => ((bulwarkref05_bits.f ((a0_4) % 4294967296) 5 7).bind fun t201 => (some (Go.bits .or .u32 (Go.bits .or .u32 (Go.bits .or .u32 (Go.bits .or .u32 (Go.bits .or .u32 t189 ((t190 * 4096) % 4294967296)) ((((a0_2) % 4294967296) * 32768) % 4294967296)) ((((a0_3) % 4294967296) * 1048576) % 4294967296)) ((t200 * 128) % 4294967296)) ((t201 * 33554432) % 4294967296), 0)))) else (if t188 = 6 then ((bulwarkref05_bits.f ((a0_4) % 4294967296) 11 1).bind fun t202 => ((bulwarkref05_bits.f ((a0_4) % 4294967296) 1 4).bind fun t203 => ((bulwarkref05_bits.f ((a0_4) % 4294967296) 5 6).bind fun t204 => ((bulwarkref05_bits.f ((a0_4) % 4294967296) 12 1).bind fun t205 => (some (Go.bits .or .u32 (Go.bits .or .u32 (Go.bits .or .u32 (Go.bits .or .u32 (Go.bits .or .u32 (Go.bits .or .u32 (Go.bits .or .u32 t189 ((t190 * 4096) % 4294967296)) ((((a0_2) % 4294967296) * 32768) % 4294967296)) ((((a0_3) % 4294967296) * 1048576) % 4294967296)) ((t202 * 128) % 4294967296)) ((t203 * 256) % 4294967296)) ((t204 * 33554432) % 4294967296)) ((t205 * 2147483648) % 4294967296), 0)))))) else (if t188 = 7 then (some (Go.bits .or .u32 (Go.bits .or .u32 (Go.bits .or .u32 (Go.bits .or .u32 (Go.bits .or .u32 t189 ((t190 * 4096) % 4294967296)) ((((a0_1) % 4294967296) * 128) % 4294967296)) ((((a0_2) % 4294967296) * 32768) % 4294967296)) ((((a0_3) % 4294967296) * 1048576) % 4294967296)) ((t191 * 33554432) % 4294967296), 0)) else (if t188 = 8 then (some (Go.bits .or .u32 (Go.bits .or .u32 (Go.bits .or .u32 (Go.bits .or .u32 t189 ((t190 * 4096) % 4294967296)) ((((a0_1) % 4294967296) * 128) % 4294967296)) ((((a0_2) % 4294967296) * 32768) % 4294967296)) ((t191 * 1048576) % 4294967296), 0)) else (if t188 = 9 then (some (Go.bits .or .u32 (Go.bits .or .u32 (Go.bits .or .u32 (Go.bits .or .u32 (Go.bits .or .u32 t189 ((t190 * 4096) % 4294967296)) ((((a0_1) % 4294967296) * 128) % 4294967296)) ((((a0_2) % 4294967296) * 32768) % 4294967296)) ((((a0_4) % 4294967296) * 1048576) % 4294967296)) ((t191 * 33554432) % 4294967296), 0)) else (some ((Go.bits .or .u32 t189 ((t190 * 4096) % 4294967296)), 0)))))))) = some (r1, r2) := by rw [if_neg (show ¬ (false = true) by decide)] at H; exact H
                  clear H
                  have H := H1
                  clear H1
                  by_cases c36 : t188 = 4
                  · rw [if_pos c36] at H
                    have c36b0 : (t188 == 4) = true := beq_iff_eq.mpr c36
                    have c36b1 : (t188 != 4) = false := bne_eq_false_iff_eq.mpr c36
                    clear c36
                    simp only [Option.some.injEq, Prod.mk.injEq] at H
                    obtain ⟨rfl, rfl⟩ := H
                    have hnb37 := NB193_185.out
                    have hnc37 := NB185_193.out
                    have hcz38_0 : wc.cell? ⟨gb193, 0, none⟩ = some (.int .u8 t186) := (blk_cell BK193.out 0).trans rfl
                    have hcz38_1 : wc.cell? ⟨gb193, 1, none⟩ = some (.string t187) := (blk_cell BK193.out 1).trans rfl
                    have hcz38_2 : wc.cell? ⟨gb193, 2, none⟩ = some (.int .i64 t188) := (blk_cell BK193.out 2).trans rfl
                    have hcz38_3 : wc.cell? ⟨gb193, 3, none⟩ = some (.int .u32 t189) := (blk_cell BK193.out 3).trans rfl
                    have hcz38_4 : wc.cell? ⟨gb193, 4, none⟩ = some (.int .u32 t190) := (blk_cell BK193.out 4).trans rfl
                    have hcz38_5 : wc.cell? ⟨gb193, 5, none⟩ = some (.int .u32 t191) := (blk_cell BK193.out 5).trans rfl
                    have hfz38_0 := blk_frozen BK193.out 0
                    have hfz38_1 := blk_frozen BK193.out 1
                    have hfz38_2 := blk_frozen BK193.out 2
                    have hfz38_3 := blk_frozen BK193.out 3
                    have hfz38_4 := blk_frozen BK193.out 4
                    have hfz38_5 := blk_frozen BK193.out 5
                    go_wp2
                    repeat (go_quiet (fail); try go_wp2)
                    go_ret2
                    exact ⟨by first | rfl | (simp [errW_none, errW_some] <;> rfl) | (simp [*, errW_none, errW_some] <;> rfl), by repeat (first | (with_reducible first | exact HB.out | apply below_alloc | apply pw_below_drewN | apply below_drew1 | refine below_set ?_ GE185.out | refine below_set ?_ GE193.out) | exact HB.out)⟩
                  · rw [if_neg c36] at H
                    have c36b0 : (t188 == 4) = false := beq_eq_false_iff_ne.mpr c36
                    have c36b1 : (t188 != 4) = true := bne_iff_ne.mpr c36
                    by_cases c39 : t188 = 5
                    · rw [if_pos c39] at H
                      have c39b0 : (t188 == 5) = true := beq_iff_eq.mpr c39
                      have c39b1 : (t188 != 5) = false := bne_eq_false_iff_eq.mpr c39
                      clear c39
                      replace H := Option.bind_eq_some_iff.mp H
                      obtain ⟨t200, A400, H⟩ := H
                      replace H : ((bulwarkref05_bits.f ((a0_4) % 4294967296) 5 7).bind fun t201 => (some (Go.bits .or .u32 (Go.bits .or .u32 (Go.bits .or .u32 (Go.bits .or .u32 (Go.bits .or .u32 t189 ((t190 * 4096) % 4294967296)) ((((a0_2) % 4294967296) * 32768) % 4294967296)) ((((a0_3) % 4294967296) * 1048576) % 4294967296)) ((t200 * 128) % 4294967296)) ((t201 * 33554432) % 4294967296), 0))) = some (r1, r2) := H
                      have A40 := Aside0.mk A400
                      clear A400
                      replace H := Option.bind_eq_some_iff.mp H
                      obtain ⟨t201, A410, H⟩ := H
                      replace H : (some (Go.bits .or .u32 (Go.bits .or .u32 (Go.bits .or .u32 (Go.bits .or .u32 (Go.bits .or .u32 t189 ((t190 * 4096) % 4294967296)) ((((a0_2) % 4294967296) * 32768) % 4294967296)) ((((a0_3) % 4294967296) * 1048576) % 4294967296)) ((t200 * 128) % 4294967296)) ((t201 * 33554432) % 4294967296), 0)) = some (r1, r2) := H
                      have A41 := Aside0.mk A410
                      clear A410
                      simp only [Option.some.injEq, Prod.mk.injEq] at H
                      obtain ⟨rfl, rfl⟩ := H
                      go_wp2_with (first | (go_at_call 67; (with_reducible refine (bulwarkref05_bits.calls ((a0_4) % 4294967296) 0 5 t200 _ A40.out).mono ?_); rintro e w' ⟨rfl, ⟨nd, rfl⟩⟩; (try first | exact ⟨rfl, _, World.drewN_drewN _ _ _⟩ | exact ⟨rfl, _, Eq.trans (World.drewN_drewN _ _ _) (congrArg (World.drewN _) (Nat.add_assoc _ _ _))⟩)) | (go_at_call 67; (with_reducible refine (bulwarkref05_bits.calls ((a0_4) % 4294967296) 5 7 t201 _ A41.out).mono ?_); rintro e w' ⟨rfl, ⟨nd, rfl⟩⟩; (try first | exact ⟨rfl, _, World.drewN_drewN _ _ _⟩ | exact ⟨rfl, _, Eq.trans (World.drewN_drewN _ _ _) (congrArg (World.drewN _) (Nat.add_assoc _ _ _))⟩)))
                      repeat (go_quiet (first | (go_at_call 67; (with_reducible refine (bulwarkref05_bits.calls ((a0_4) % 4294967296) 0 5 t200 _ A40.out).mono ?_); rintro e w' ⟨rfl, ⟨nd, rfl⟩⟩; (try first | exact ⟨rfl, _, World.drewN_drewN _ _ _⟩ | exact ⟨rfl, _, Eq.trans (World.drewN_drewN _ _ _) (congrArg (World.drewN _) (Nat.add_assoc _ _ _))⟩)) | (go_at_call 67; (with_reducible refine (bulwarkref05_bits.calls ((a0_4) % 4294967296) 5 7 t201 _ A41.out).mono ?_); rintro e w' ⟨rfl, ⟨nd, rfl⟩⟩; (try first | exact ⟨rfl, _, World.drewN_drewN _ _ _⟩ | exact ⟨rfl, _, Eq.trans (World.drewN_drewN _ _ _) (congrArg (World.drewN _) (Nat.add_assoc _ _ _))⟩))); try go_wp2_with (first | (go_at_call 67; (with_reducible refine (bulwarkref05_bits.calls ((a0_4) % 4294967296) 0 5 t200 _ A40.out).mono ?_); rintro e w' ⟨rfl, ⟨nd, rfl⟩⟩; (try first | exact ⟨rfl, _, World.drewN_drewN _ _ _⟩ | exact ⟨rfl, _, Eq.trans (World.drewN_drewN _ _ _) (congrArg (World.drewN _) (Nat.add_assoc _ _ _))⟩)) | (go_at_call 67; (with_reducible refine (bulwarkref05_bits.calls ((a0_4) % 4294967296) 5 7 t201 _ A41.out).mono ?_); rintro e w' ⟨rfl, ⟨nd, rfl⟩⟩; (try first | exact ⟨rfl, _, World.drewN_drewN _ _ _⟩ | exact ⟨rfl, _, Eq.trans (World.drewN_drewN _ _ _) (congrArg (World.drewN _) (Nat.add_assoc _ _ _))⟩))))
                      go_ret2
                      exact ⟨by first | rfl | (simp [errW_none, errW_some] <;> rfl) | (simp [*, errW_none, errW_some] <;> rfl), by repeat (first | (with_reducible first | exact HB.out | apply below_alloc | apply pw_below_drewN | apply below_drew1 | refine below_set ?_ GE185.out | refine below_set ?_ GE193.out) | exact HB.out)⟩
                    · rw [if_neg c39] at H
                      have c39b0 : (t188 == 5) = false := beq_eq_false_iff_ne.mpr c39
                      have c39b1 : (t188 != 5) = true := bne_iff_ne.mpr c39
                      by_cases c42 : t188 = 6
                      · rw [if_pos c42] at H
                        have c42b0 : (t188 == 6) = true := beq_iff_eq.mpr c42
                        have c42b1 : (t188 != 6) = false := bne_eq_false_iff_eq.mpr c42
                        clear c42
                        replace H := Option.bind_eq_some_iff.mp H
                        obtain ⟨t202, A430, H⟩ := H
                        replace H : ((bulwarkref05_bits.f ((a0_4) % 4294967296) 1 4).bind fun t203 => ((bulwarkref05_bits.f ((a0_4) % 4294967296) 5 6).bind fun t204 => ((bulwarkref05_bits.f ((a0_4) % 4294967296) 12 1).bind fun t205 => (some (Go.bits .or .u32 (Go.bits .or .u32 (Go.bits .or .u32 (Go.bits .or .u32 (Go.bits .or .u32 (Go.bits .or .u32 (Go.bits .or .u32 t189 ((t190 * 4096) % 4294967296)) ((((a0_2) % 4294967296) * 32768) % 4294967296)) ((((a0_3) % 4294967296) * 1048576) % 4294967296)) ((t202 * 128) % 4294967296)) ((t203 * 256) % 4294967296)) ((t204 * 33554432) % 4294967296)) ((t205 * 2147483648) % 4294967296), 0))))) = some (r1, r2) := H
                        have A43 := Aside0.mk A430
                        clear A430
                        replace H := Option.bind_eq_some_iff.mp H
                        obtain ⟨t203, A440, H⟩ := H
                        replace H : ((bulwarkref05_bits.f ((a0_4) % 4294967296) 5 6).bind fun t204 => ((bulwarkref05_bits.f ((a0_4) % 4294967296) 12 1).bind fun t205 => (some (Go.bits .or .u32 (Go.bits .or .u32 (Go.bits .or .u32 (Go.bits .or .u32 (Go.bits .or .u32 (Go.bits .or .u32 (Go.bits .or .u32 t189 ((t190 * 4096) % 4294967296)) ((((a0_2) % 4294967296) * 32768) % 4294967296)) ((((a0_3) % 4294967296) * 1048576) % 4294967296)) ((t202 * 128) % 4294967296)) ((t203 * 256) % 4294967296)) ((t204 * 33554432) % 4294967296)) ((t205 * 2147483648) % 4294967296), 0)))) = some (r1, r2) := H
                        have A44 := Aside0.mk A440
                        clear A440
                        replace H := Option.bind_eq_some_iff.mp H
                        obtain ⟨t204, A450, H⟩ := H
                        replace H : ((bulwarkref05_bits.f ((a0_4) % 4294967296) 12 1).bind fun t205 => (some (Go.bits .or .u32 (Go.bits .or .u32 (Go.bits .or .u32 (Go.bits .or .u32 (Go.bits .or .u32 (Go.bits .or .u32 (Go.bits .or .u32 t189 ((t190 * 4096) % 4294967296)) ((((a0_2) % 4294967296) * 32768) % 4294967296)) ((((a0_3) % 4294967296) * 1048576) % 4294967296)) ((t202 * 128) % 4294967296)) ((t203 * 256) % 4294967296)) ((t204 * 33554432) % 4294967296)) ((t205 * 2147483648) % 4294967296), 0))) = some (r1, r2) := H
                        have A45 := Aside0.mk A450
                        clear A450
                        replace H := Option.bind_eq_some_iff.mp H
                        obtain ⟨t205, A460, H⟩ := H
                        replace H : (some (Go.bits .or .u32 (Go.bits .or .u32 (Go.bits .or .u32 (Go.bits .or .u32 (Go.bits .or .u32 (Go.bits .or .u32 (Go.bits .or .u32 t189 ((t190 * 4096) % 4294967296)) ((((a0_2) % 4294967296) * 32768) % 4294967296)) ((((a0_3) % 4294967296) * 1048576) % 4294967296)) ((t202 * 128) % 4294967296)) ((t203 * 256) % 4294967296)) ((t204 * 33554432) % 4294967296)) ((t205 * 2147483648) % 4294967296), 0)) = some (r1, r2) := H
                        have A46 := Aside0.mk A460
                        clear A460
                        simp only [Option.some.injEq, Prod.mk.injEq] at H
                        obtain ⟨rfl, rfl⟩ := H
                        go_wp2_with (first | (go_at_call 67; (with_reducible refine (bulwarkref05_bits.calls ((a0_4) % 4294967296) 11 1 t202 _ A43.out).mono ?_); rintro e w' ⟨rfl, ⟨nd, rfl⟩⟩; (try first | exact ⟨rfl, _, World.drewN_drewN _ _ _⟩ | exact ⟨rfl, _, Eq.trans (World.drewN_drewN _ _ _) (congrArg (World.drewN _) (Nat.add_assoc _ _ _))⟩)) | (go_at_call 67; (with_reducible refine (bulwarkref05_bits.calls ((a0_4) % 4294967296) 1 4 t203 _ A44.out).mono ?_); rintro e w' ⟨rfl, ⟨nd, rfl⟩⟩; (try first | exact ⟨rfl, _, World.drewN_drewN _ _ _⟩ | exact ⟨rfl, _, Eq.trans (World.drewN_drewN _ _ _) (congrArg (World.drewN _) (Nat.add_assoc _ _ _))⟩)) | (go_at_call 67; (with_reducible refine (bulwarkref05_bits.calls ((a0_4) % 4294967296) 5 6 t204 _ A45.out).mono ?_); rintro e w' ⟨rfl, ⟨nd, rfl⟩⟩; (try first | exact ⟨rfl, _, World.drewN_drewN _ _ _⟩ | exact ⟨rfl, _, Eq.trans (World.drewN_drewN _ _ _) (congrArg (World.drewN _) (Nat.add_assoc _ _ _))⟩)) | (go_at_call 67; (with_reducible refine (bulwarkref05_bits.calls ((a0_4) % 4294967296) 12 1 t205 _ A46.out).mono ?_); rintro e w' ⟨rfl, ⟨nd, rfl⟩⟩; (try first | exact ⟨rfl, _, World.drewN_drewN _ _ _⟩ | exact ⟨rfl, _, Eq.trans (World.drewN_drewN _ _ _) (congrArg (World.drewN _) (Nat.add_assoc _ _ _))⟩)))
                        repeat (go_quiet (first | (go_at_call 67; (with_reducible refine (bulwarkref05_bits.calls ((a0_4) % 4294967296) 11 1 t202 _ A43.out).mono ?_); rintro e w' ⟨rfl, ⟨nd, rfl⟩⟩; (try first | exact ⟨rfl, _, World.drewN_drewN _ _ _⟩ | exact ⟨rfl, _, Eq.trans (World.drewN_drewN _ _ _) (congrArg (World.drewN _) (Nat.add_assoc _ _ _))⟩)) | (go_at_call 67; (with_reducible refine (bulwarkref05_bits.calls ((a0_4) % 4294967296) 1 4 t203 _ A44.out).mono ?_); rintro e w' ⟨rfl, ⟨nd, rfl⟩⟩; (try first | exact ⟨rfl, _, World.drewN_drewN _ _ _⟩ | exact ⟨rfl, _, Eq.trans (World.drewN_drewN _ _ _) (congrArg (World.drewN _) (Nat.add_assoc _ _ _))⟩)) | (go_at_call 67; (with_reducible refine (bulwarkref05_bits.calls ((a0_4) % 4294967296) 5 6 t204 _ A45.out).mono ?_); rintro e w' ⟨rfl, ⟨nd, rfl⟩⟩; (try first | exact ⟨rfl, _, World.drewN_drewN _ _ _⟩ | exact ⟨rfl, _, Eq.trans (World.drewN_drewN _ _ _) (congrArg (World.drewN _) (Nat.add_assoc _ _ _))⟩)) | (go_at_call 67; (with_reducible refine (bulwarkref05_bits.calls ((a0_4) % 4294967296) 12 1 t205 _ A46.out).mono ?_); rintro e w' ⟨rfl, ⟨nd, rfl⟩⟩; (try first | exact ⟨rfl, _, World.drewN_drewN _ _ _⟩ | exact ⟨rfl, _, Eq.trans (World.drewN_drewN _ _ _) (congrArg (World.drewN _) (Nat.add_assoc _ _ _))⟩))); try go_wp2_with (first | (go_at_call 67; (with_reducible refine (bulwarkref05_bits.calls ((a0_4) % 4294967296) 11 1 t202 _ A43.out).mono ?_); rintro e w' ⟨rfl, ⟨nd, rfl⟩⟩; (try first | exact ⟨rfl, _, World.drewN_drewN _ _ _⟩ | exact ⟨rfl, _, Eq.trans (World.drewN_drewN _ _ _) (congrArg (World.drewN _) (Nat.add_assoc _ _ _))⟩)) | (go_at_call 67; (with_reducible refine (bulwarkref05_bits.calls ((a0_4) % 4294967296) 1 4 t203 _ A44.out).mono ?_); rintro e w' ⟨rfl, ⟨nd, rfl⟩⟩; (try first | exact ⟨rfl, _, World.drewN_drewN _ _ _⟩ | exact ⟨rfl, _, Eq.trans (World.drewN_drewN _ _ _) (congrArg (World.drewN _) (Nat.add_assoc _ _ _))⟩)) | (go_at_call 67; (with_reducible refine (bulwarkref05_bits.calls ((a0_4) % 4294967296) 5 6 t204 _ A45.out).mono ?_); rintro e w' ⟨rfl, ⟨nd, rfl⟩⟩; (try first | exact ⟨rfl, _, World.drewN_drewN _ _ _⟩ | exact ⟨rfl, _, Eq.trans (World.drewN_drewN _ _ _) (congrArg (World.drewN _) (Nat.add_assoc _ _ _))⟩)) | (go_at_call 67; (with_reducible refine (bulwarkref05_bits.calls ((a0_4) % 4294967296) 12 1 t205 _ A46.out).mono ?_); rintro e w' ⟨rfl, ⟨nd, rfl⟩⟩; (try first | exact ⟨rfl, _, World.drewN_drewN _ _ _⟩ | exact ⟨rfl, _, Eq.trans (World.drewN_drewN _ _ _) (congrArg (World.drewN _) (Nat.add_assoc _ _ _))⟩))))
                        go_ret2
                        exact ⟨by first | rfl | (simp [errW_none, errW_some] <;> rfl) | (simp [*, errW_none, errW_some] <;> rfl), by repeat (first | (with_reducible first | exact HB.out | apply below_alloc | apply pw_below_drewN | apply below_drew1 | refine below_set ?_ GE185.out | refine below_set ?_ GE193.out) | exact HB.out)⟩
                      · rw [if_neg c42] at H
                        have c42b0 : (t188 == 6) = false := beq_eq_false_iff_ne.mpr c42
                        have c42b1 : (t188 != 6) = true := bne_iff_ne.mpr c42
                        by_cases c47 : t188 = 7
                        · rw [if_pos c47] at H
                          have c47b0 : (t188 == 7) = true := beq_iff_eq.mpr c47
                          have c47b1 : (t188 != 7) = false := bne_eq_false_iff_eq.mpr c47
                          clear c47
                          simp only [Option.some.injEq, Prod.mk.injEq] at H
                          obtain ⟨rfl, rfl⟩ := H
                          have hnb48 := NB193_185.out
                          have hnc48 := NB185_193.out
                          have hcz49_0 : wc.cell? ⟨gb193, 0, none⟩ = some (.int .u8 t186) := (blk_cell BK193.out 0).trans rfl
                          have hcz49_1 : wc.cell? ⟨gb193, 1, none⟩ = some (.string t187) := (blk_cell BK193.out 1).trans rfl
                          have hcz49_2 : wc.cell? ⟨gb193, 2, none⟩ = some (.int .i64 t188) := (blk_cell BK193.out 2).trans rfl
                          have hcz49_3 : wc.cell? ⟨gb193, 3, none⟩ = some (.int .u32 t189) := (blk_cell BK193.out 3).trans rfl
                          have hcz49_4 : wc.cell? ⟨gb193, 4, none⟩ = some (.int .u32 t190) := (blk_cell BK193.out 4).trans rfl
                          have hcz49_5 : wc.cell? ⟨gb193, 5, none⟩ = some (.int .u32 t191) := (blk_cell BK193.out 5).trans rfl
                          have hfz49_0 := blk_frozen BK193.out 0
                          have hfz49_1 := blk_frozen BK193.out 1
                          have hfz49_2 := blk_frozen BK193.out 2
                          have hfz49_3 := blk_frozen BK193.out 3
                          have hfz49_4 := blk_frozen BK193.out 4
                          have hfz49_5 := blk_frozen BK193.out 5
                          go_wp2
                          repeat (go_quiet (fail); try go_wp2)
                          go_ret2
                          exact ⟨by first | rfl | (simp [errW_none, errW_some] <;> rfl) | (simp [*, errW_none, errW_some] <;> rfl), by repeat (first | (with_reducible first | exact HB.out | apply below_alloc | apply pw_below_drewN | apply below_drew1 | refine below_set ?_ GE185.out | refine below_set ?_ GE193.out) | exact HB.out)⟩
                        · rw [if_neg c47] at H
                          have c47b0 : (t188 == 7) = false := beq_eq_false_iff_ne.mpr c47
                          have c47b1 : (t188 != 7) = true := bne_iff_ne.mpr c47
                          by_cases c50 : t188 = 8
                          · rw [if_pos c50] at H
                            have c50b0 : (t188 == 8) = true := beq_iff_eq.mpr c50
                            have c50b1 : (t188 != 8) = false := bne_eq_false_iff_eq.mpr c50
                            clear c50
                            simp only [Option.some.injEq, Prod.mk.injEq] at H
                            obtain ⟨rfl, rfl⟩ := H
                            have hnb51 := NB193_185.out
                            have hnc51 := NB185_193.out
                            have hcz52_0 : wc.cell? ⟨gb193, 0, none⟩ = some (.int .u8 t186) := (blk_cell BK193.out 0).trans rfl
                            have hcz52_1 : wc.cell? ⟨gb193, 1, none⟩ = some (.string t187) := (blk_cell BK193.out 1).trans rfl
                            have hcz52_2 : wc.cell? ⟨gb193, 2, none⟩ = some (.int .i64 t188) := (blk_cell BK193.out 2).trans rfl
                            have hcz52_3 : wc.cell? ⟨gb193, 3, none⟩ = some (.int .u32 t189) := (blk_cell BK193.out 3).trans rfl
                            have hcz52_4 : wc.cell? ⟨gb193, 4, none⟩ = some (.int .u32 t190) := (blk_cell BK193.out 4).trans rfl
                            have hcz52_5 : wc.cell? ⟨gb193, 5, none⟩ = some (.int .u32 t191) := (blk_cell BK193.out 5).trans rfl
                            have hfz52_0 := blk_frozen BK193.out 0
                            have hfz52_1 := blk_frozen BK193.out 1
                            have hfz52_2 := blk_frozen BK193.out 2
                            have hfz52_3 := blk_frozen BK193.out 3
                            have hfz52_4 := blk_frozen BK193.out 4
                            have hfz52_5 := blk_frozen BK193.out 5
                            go_wp2
                            repeat (go_quiet (fail); try go_wp2)
                            go_ret2
                            exact ⟨by first | rfl | (simp [errW_none, errW_some] <;> rfl) | (simp [*, errW_none, errW_some] <;> rfl), by repeat (first | (with_reducible first | exact HB.out | apply below_alloc | apply pw_below_drewN | apply below_drew1 | refine below_set ?_ GE185.out | refine below_set ?_ GE193.out) | exact HB.out)⟩
                          · rw [if_neg c50] at H
                            have c50b0 : (t188 == 8) = false := beq_eq_false_iff_ne.mpr c50
                            have c50b1 : (t188 != 8) = true := bne_iff_ne.mpr c50
                            by_cases c53 : t188 = 9
                            · rw [if_pos c53] at H
                              have c53b0 : (t188 == 9) = true := beq_iff_eq.mpr c53
                              have c53b1 : (t188 != 9) = false := bne_eq_false_iff_eq.mpr c53
                              clear c53
                              simp only [Option.some.injEq, Prod.mk.injEq] at H
                              obtain ⟨rfl, rfl⟩ := H
                              have hnb54 := NB193_185.out
                              have hnc54 := NB185_193.out
                              have hcz55_0 : wc.cell? ⟨gb193, 0, none⟩ = some (.int .u8 t186) := (blk_cell BK193.out 0).trans rfl
                              have hcz55_1 : wc.cell? ⟨gb193, 1, none⟩ = some (.string t187) := (blk_cell BK193.out 1).trans rfl
                              have hcz55_2 : wc.cell? ⟨gb193, 2, none⟩ = some (.int .i64 t188) := (blk_cell BK193.out 2).trans rfl
                              have hcz55_3 : wc.cell? ⟨gb193, 3, none⟩ = some (.int .u32 t189) := (blk_cell BK193.out 3).trans rfl
                              have hcz55_4 : wc.cell? ⟨gb193, 4, none⟩ = some (.int .u32 t190) := (blk_cell BK193.out 4).trans rfl
                              have hcz55_5 : wc.cell? ⟨gb193, 5, none⟩ = some (.int .u32 t191) := (blk_cell BK193.out 5).trans rfl
                              have hfz55_0 := blk_frozen BK193.out 0
                              have hfz55_1 := blk_frozen BK193.out 1
                              have hfz55_2 := blk_frozen BK193.out 2
                              have hfz55_3 := blk_frozen BK193.out 3
                              have hfz55_4 := blk_frozen BK193.out 4
                              have hfz55_5 := blk_frozen BK193.out 5
                              go_wp2
                              repeat (go_quiet (fail); try go_wp2)
                              go_ret2
                              exact ⟨by first | rfl | (simp [errW_none, errW_some] <;> rfl) | (simp [*, errW_none, errW_some] <;> rfl), by repeat (first | (with_reducible first | exact HB.out | apply below_alloc | apply pw_below_drewN | apply below_drew1 | refine below_set ?_ GE185.out | refine below_set ?_ GE193.out) | exact HB.out)⟩
                            · rw [if_neg c53] at H
                              have c53b0 : (t188 == 9) = false := beq_eq_false_iff_ne.mpr c53
                              have c53b1 : (t188 != 9) = true := bne_iff_ne.mpr c53
                              simp only [Option.some.injEq, Prod.mk.injEq] at H
                              obtain ⟨rfl, rfl⟩ := H
                              go_wp2
                              repeat (go_quiet (fail); try go_wp2)
                              go_ret2
                              exact ⟨by first | rfl | (simp [errW_none, errW_some] <;> rfl) | (simp [*, errW_none, errW_some] <;> rfl), by repeat (first | (with_reducible first | exact HB.out | apply below_alloc | apply pw_below_drewN | apply below_drew1 | refine below_set ?_ GE185.out | refine below_set ?_ GE193.out) | exact HB.out)⟩



end Go.Proofs.YtfbmjfponkkaeaaGreatDoor.Pr
