import Derived.Test.YtfbmjfponkkaeaaGreatDoorLine
import Derived.Lib.SmallJoins
namespace Go.Proofs.YtfbmjfponkkaeaaGreatDoor.Num
open Go.RowKit Go.Proofs.YtfbmjfponkkaeaaGreatDoorW.PrintWords Go.Proofs.YtfbmjfponkkaeaaGreatDoor.Pr Go.Proofs.YtfbmjfponkkaeaaGreatDoor.Fam
set_option linter.unusedVariables false
set_option linter.unusedSimpArgs false

/-- The registers and the number of an instruction of the gate's text. -/
def numOf (op : Int) : List Int → Option (Int × Int × Int × Int)
  | [] => if op = 68 then some (0, 0, 0, 0) else none
  | [x0] => if op = 3 ∧ (0 ≤ x0 ∧ x0 ≤ 255) then some (x0, 0, 0, 0) else none
  | [x0, x1] => if (op = 5 ∨ op = 6 ∨ op = 7 ∨ op = 9 ∨ op = 10) ∧ (0 ≤ x0 ∧ x0 ≤ 255) ∧ (0 ≤ x1 ∧ x1 ≤ 255) then some (0, x0, x1, 0) else if (op = 52 ∨ op = 57 ∨ op = 58 ∨ op = 59 ∨ op = 60 ∨ op = 61 ∨ op = 62 ∨ op = 63 ∨ op = 64) ∧ (0 ≤ x0 ∧ x0 ≤ 255) ∧ (0 ≤ x1 ∧ x1 ≤ 255) then some (x0, x1, 0, 0) else none
  | [x0, x1, x2] => if (op = 20) ∧ (0 ≤ x0 ∧ x0 ≤ 255) ∧ (0 ≤ x1 ∧ x1 ≤ 255) ∧ (-100000 ≤ x2 ∧ x2 ≤ 100000) then some (0, x0, x1, x2) else if (op = 30 ∨ op = 31 ∨ op = 38 ∨ op = 50 ∨ op = 53 ∨ op = 54) ∧ (0 ≤ x0 ∧ x0 ≤ 255) ∧ (0 ≤ x1 ∧ x1 ≤ 255) ∧ (0 ≤ x2 ∧ x2 ≤ 255) then some (x0, x1, x2, 0) else if (op = 4 ∨ op = 13 ∨ op = 14 ∨ op = 21 ∨ op = 26 ∨ op = 28 ∨ op = 48 ∨ op = 66) ∧ (0 ≤ x0 ∧ x0 ≤ 255) ∧ (0 ≤ x1 ∧ x1 ≤ 255) ∧ (-100000 ≤ x2 ∧ x2 ≤ 100000) then some (x0, x1, 0, x2) else none
  | _ => none

theorem num_0 (op  r0 r1 r2 r3 : Int) (h : numOf op [] = some (r0, r1, r2, r3)) : ∀ (W : World) (B b : Nat) (a t : ByteArray), W.heap[b]? = some (.cells #[.string a, .int .u8 op, .int .u8 0, .int .u8 0, .int .u8 0, .int .i32 0, .string t] 65 (0, 0)) → B ≤ b → 
      Calls Tryz.prog 93 #[.pointer (some ⟨b, 1, none⟩), .slice none 0 0] W fun e w' => e = .returned (.tuple #[]) ∧ w'.heap[b]? = some (.cells #[.string a, .int .u8 op, .int .u8 r0, .int .u8 r1, .int .u8 r2, .int .i32 r3, .string t] 65 (0, 0)) ∧ Below B W w' := by
  intro W B b a t hB hb  
  simp only [numOf] at h
  split at h
  · rename_i hh
    obtain rfl := hh
    simp only [Option.some.injEq, Prod.mk.injEq] at h
    obtain ⟨rfl, rfl, rfl, rfl⟩ := h
    exact numbers_68_0 W B b 0 none 0 0 0 0 a t  hB hb   
  · cases h
theorem num_1 (op x0 r0 r1 r2 r3 : Int) (h : numOf op [x0] = some (r0, r1, r2, r3)) : ∀ (W : World) (B b c g : Nat) (a t : ByteArray), W.heap[b]? = some (.cells #[.string a, .int .u8 op, .int .u8 0, .int .u8 0, .int .u8 0, .int .i32 0, .string t] 65 (0, 0)) → B ≤ b → W.cell? ⟨g, 0, none⟩ = some (.int .i64 x0) → g ≠ b → 
      Calls Tryz.prog 93 #[.pointer (some ⟨b, 1, none⟩), .slice (some ⟨g, 0, none⟩) 1 c] W fun e w' => e = .returned (.tuple #[]) ∧ w'.heap[b]? = some (.cells #[.string a, .int .u8 op, .int .u8 r0, .int .u8 r1, .int .u8 r2, .int .i32 r3, .string t] 65 (0, 0)) ∧ Below B W w' := by
  intro W B b c g a t hB hb h0 hne
  simp only [numOf] at h
  split at h
  · rename_i hh
    obtain ⟨rfl, hu⟩ := hh
    simp only [Option.some.injEq, Prod.mk.injEq] at h
    obtain ⟨rfl, rfl, rfl, rfl⟩ := h
    exact numbers_3_1 W B b c g  0 0 0 0 a t x0 hB hb h0 hne hu
  · cases h
theorem num_2 (op x0 x1 r0 r1 r2 r3 : Int) (h : numOf op [x0, x1] = some (r0, r1, r2, r3)) : ∀ (W : World) (B b c g : Nat) (a t : ByteArray), W.heap[b]? = some (.cells #[.string a, .int .u8 op, .int .u8 0, .int .u8 0, .int .u8 0, .int .i32 0, .string t] 65 (0, 0)) → B ≤ b → W.cell? ⟨g, 0, none⟩ = some (.int .i64 x0) → W.cell? ⟨g, 1, none⟩ = some (.int .i64 x1) → g ≠ b → 
      Calls Tryz.prog 93 #[.pointer (some ⟨b, 1, none⟩), .slice (some ⟨g, 0, none⟩) 2 c] W fun e w' => e = .returned (.tuple #[]) ∧ w'.heap[b]? = some (.cells #[.string a, .int .u8 op, .int .u8 r0, .int .u8 r1, .int .u8 r2, .int .i32 r3, .string t] 65 (0, 0)) ∧ Below B W w' := by
  intro W B b c g a t hB hb h0 h1 hne
  simp only [numOf] at h
  split at h
  · rename_i hh
    obtain ⟨hop, hu⟩ := hh
    simp only [Option.some.injEq, Prod.mk.injEq] at h
    obtain ⟨rfl, rfl, rfl, rfl⟩ := h
    rcases hop with rfl | rfl | rfl | rfl | rfl
    · exact numbers_5_2 W B b c g  0 0 0 0 a t x0 x1 hB hb h0 h1 hne hu.1 hu.2
    · exact numbers_6_2 W B b c g  0 0 0 0 a t x0 x1 hB hb h0 h1 hne hu.1 hu.2
    · exact numbers_7_2 W B b c g  0 0 0 0 a t x0 x1 hB hb h0 h1 hne hu.1 hu.2
    · exact numbers_9_2 W B b c g  0 0 0 0 a t x0 x1 hB hb h0 h1 hne hu.1 hu.2
    · exact numbers_10_2 W B b c g  0 0 0 0 a t x0 x1 hB hb h0 h1 hne hu.1 hu.2
  rename_i hno0; clear hno0
  split at h
  · rename_i hh
    obtain ⟨hop, hu⟩ := hh
    simp only [Option.some.injEq, Prod.mk.injEq] at h
    obtain ⟨rfl, rfl, rfl, rfl⟩ := h
    rcases hop with rfl | rfl | rfl | rfl | rfl | rfl | rfl | rfl | rfl
    · exact numbers_52_2 W B b c g  0 0 0 0 a t x0 x1 hB hb h0 h1 hne hu.1 hu.2
    · exact numbers_57_2 W B b c g  0 0 0 0 a t x0 x1 hB hb h0 h1 hne hu.1 hu.2
    · exact numbers_58_2 W B b c g  0 0 0 0 a t x0 x1 hB hb h0 h1 hne hu.1 hu.2
    · exact numbers_59_2 W B b c g  0 0 0 0 a t x0 x1 hB hb h0 h1 hne hu.1 hu.2
    · exact numbers_60_2 W B b c g  0 0 0 0 a t x0 x1 hB hb h0 h1 hne hu.1 hu.2
    · exact numbers_61_2 W B b c g  0 0 0 0 a t x0 x1 hB hb h0 h1 hne hu.1 hu.2
    · exact numbers_62_2 W B b c g  0 0 0 0 a t x0 x1 hB hb h0 h1 hne hu.1 hu.2
    · exact numbers_63_2 W B b c g  0 0 0 0 a t x0 x1 hB hb h0 h1 hne hu.1 hu.2
    · exact numbers_64_2 W B b c g  0 0 0 0 a t x0 x1 hB hb h0 h1 hne hu.1 hu.2
  · cases h
theorem num_3 (op x0 x1 x2 r0 r1 r2 r3 : Int) (h : numOf op [x0, x1, x2] = some (r0, r1, r2, r3)) : ∀ (W : World) (B b c g : Nat) (a t : ByteArray), W.heap[b]? = some (.cells #[.string a, .int .u8 op, .int .u8 0, .int .u8 0, .int .u8 0, .int .i32 0, .string t] 65 (0, 0)) → B ≤ b → W.cell? ⟨g, 0, none⟩ = some (.int .i64 x0) → W.cell? ⟨g, 1, none⟩ = some (.int .i64 x1) → W.cell? ⟨g, 2, none⟩ = some (.int .i64 x2) → g ≠ b → 
      Calls Tryz.prog 93 #[.pointer (some ⟨b, 1, none⟩), .slice (some ⟨g, 0, none⟩) 3 c] W fun e w' => e = .returned (.tuple #[]) ∧ w'.heap[b]? = some (.cells #[.string a, .int .u8 op, .int .u8 r0, .int .u8 r1, .int .u8 r2, .int .i32 r3, .string t] 65 (0, 0)) ∧ Below B W w' := by
  intro W B b c g a t hB hb h0 h1 h2 hne
  simp only [numOf] at h
  split at h
  · rename_i hh
    obtain ⟨rfl, hu⟩ := hh
    simp only [Option.some.injEq, Prod.mk.injEq] at h
    obtain ⟨rfl, rfl, rfl, rfl⟩ := h
    exact numbers_20_3 W B b c g  0 0 0 0 a t x0 x1 x2 hB hb h0 h1 h2 hne hu.1 hu.2.1 hu.2.2
  rename_i hno0; clear hno0
  split at h
  · rename_i hh
    obtain ⟨hop, hu⟩ := hh
    simp only [Option.some.injEq, Prod.mk.injEq] at h
    obtain ⟨rfl, rfl, rfl, rfl⟩ := h
    rcases hop with rfl | rfl | rfl | rfl | rfl | rfl
    · exact numbers_30_3 W B b c g  0 0 0 0 a t x0 x1 x2 hB hb h0 h1 h2 hne hu.1 hu.2.1 hu.2.2
    · exact numbers_31_3 W B b c g  0 0 0 0 a t x0 x1 x2 hB hb h0 h1 h2 hne hu.1 hu.2.1 hu.2.2
    · exact numbers_38_3 W B b c g  0 0 0 0 a t x0 x1 x2 hB hb h0 h1 h2 hne hu.1 hu.2.1 hu.2.2
    · exact numbers_50_3 W B b c g  0 0 0 0 a t x0 x1 x2 hB hb h0 h1 h2 hne hu.1 hu.2.1 hu.2.2
    · exact numbers_53_3 W B b c g  0 0 0 0 a t x0 x1 x2 hB hb h0 h1 h2 hne hu.1 hu.2.1 hu.2.2
    · exact numbers_54_3 W B b c g  0 0 0 0 a t x0 x1 x2 hB hb h0 h1 h2 hne hu.1 hu.2.1 hu.2.2
  rename_i hno1; clear hno1
  split at h
  · rename_i hh
    obtain ⟨hop, hu⟩ := hh
    simp only [Option.some.injEq, Prod.mk.injEq] at h
    obtain ⟨rfl, rfl, rfl, rfl⟩ := h
    rcases hop with rfl | rfl | rfl | rfl | rfl | rfl | rfl | rfl
    · exact numbers_4_3 W B b c g  0 0 0 0 a t x0 x1 x2 hB hb h0 h1 h2 hne hu.1 hu.2.1 hu.2.2
    · exact numbers_13_3 W B b c g  0 0 0 0 a t x0 x1 x2 hB hb h0 h1 h2 hne hu.1 hu.2.1 hu.2.2
    · exact numbers_14_3 W B b c g  0 0 0 0 a t x0 x1 x2 hB hb h0 h1 h2 hne hu.1 hu.2.1 hu.2.2
    · exact numbers_21_3 W B b c g  0 0 0 0 a t x0 x1 x2 hB hb h0 h1 h2 hne hu.1 hu.2.1 hu.2.2
    · exact numbers_26_3 W B b c g  0 0 0 0 a t x0 x1 x2 hB hb h0 h1 h2 hne hu.1 hu.2.1 hu.2.2
    · exact numbers_28_3 W B b c g  0 0 0 0 a t x0 x1 x2 hB hb h0 h1 h2 hne hu.1 hu.2.1 hu.2.2
    · exact numbers_48_3 W B b c g  0 0 0 0 a t x0 x1 x2 hB hb h0 h1 h2 hne hu.1 hu.2.1 hu.2.2
    · exact numbers_66_3 W B b c g  0 0 0 0 a t x0 x1 x2 hB hb h0 h1 h2 hne hu.1 hu.2.1 hu.2.2
  · cases h

/-! ### A line, of its text -/
def small (l : List UInt8) : Bool := l.all fun b => decide (b.toNat < 128)
def atois : List (List UInt8) → Option (List Int)
  | [] => some []
  | l :: r => if l.length ≤ 18 then (match Lib.atoi l, atois r with | some n, some ns => some (n :: ns) | _, _ => none) else none
def lineOf (s : ByteArray) : Option S65 :=
  let c1 := Lib.cut s.data.toList [58, 32]
  let lab : ByteArray := if c1.2.2 then ⟨c1.1.toArray⟩ else ⟨#[]⟩
  let s1 : ByteArray := if c1.2.2 then ⟨c1.2.1.toArray⟩ else s
  let c2 := Lib.cut s1.data.toList [32, 45, 62, 32]
  if s.size < 4294967281 ∧ s1.size < 4294967281 ∧ c2.1.length < 4294967281 ∧ small c2.1 = true then
    match Lib.fields c2.1 with
    | [] => none
    | f0 :: rest => match namedIn ⟨f0.toArray⟩ theFams, atois rest with
      | some op, some xs => match numOf op xs with
        | some (a, b, c, d) => some ⟨lab, ⟨op, a, b, c, d⟩, ⟨c2.2.1.toArray⟩⟩
        | none => none
      | _, _ => none
  else none
theorem cut_contract (s sep : ByteArray) (hs : s.size < 4294967281) (W : World) (hW : Env W) :
    Calls Tryz.prog 89 #[.string s, .string sep] W fun e w' => e = .returned (.tuple #[.string ⟨(Lib.cut s.data.toList sep.data.toList).1.toArray⟩, .string ⟨(Lib.cut s.data.toList sep.data.toList).2.1.toArray⟩, .bool (Lib.cut s.data.toList sep.data.toList).2.2]) ∧ Below W.heap.size W w' := by
  obtain ⟨m, hm⟩ := hW.ml
  refine (Tryz.strings_Cut s sep m W hs hm).mono ?_
  rintro e w' ⟨rfl, n, rfl⟩
  exact ⟨rfl, pw_below_drewN (Below.refl _ _) n⟩
theorem atoi_contract (l : List UInt8) (n : Int) (hl : l.length ≤ 18) (h : Lib.atoi l = some n) (W : World) :
    Calls Tryz.prog 92 #[.string ⟨l.toArray⟩] W fun e w' => e = .returned (.tuple #[.int .i64 n, .nilIface]) ∧ Below W.heap.size W w' := by
  refine (Tryz.strconv_Atoi ⟨l.toArray⟩ n (by simpa [ByteArray.size] using hl) h W).mono ?_
  rintro e w' ⟨rfl, t, rfl⟩
  exact ⟨rfl, Go.Joins.below_bytesWorld _ _ _ _ (Nat.le_refl _)⟩
theorem fields_contract (l : List UInt8) (fs : List (List UInt8)) (hf : Lib.fields l = fs) (hl : l.length < 4294967281) (hsm : small l = true) (W : World) (hW : Env W) :
    Calls Tryz.prog 90 #[.string ⟨l.toArray⟩] W fun e w' => e = .returned (.slice (some ⟨W.heap.size, 0, none⟩) fs.length fs.length) ∧ w' = W.alloc (.cells ((fs.map fun l => Value.string ⟨l.toArray⟩).toArray) 9 (0, 0)) := by
  subst hf
  refine Tryz.strings_Fields ⟨l.toArray⟩ W (by simpa [ByteArray.size] using hl) ?_ hW.sp
  intro j b hb
  have := List.all_eq_true.1 hsm b (List.mem_of_getElem? hb)
  simpa using this
theorem atois_cons {l : List UInt8} {r : List (List UInt8)} {xs : List Int} (h : atois (l :: r) = some xs) : ∃ n ns, l.length ≤ 18 ∧ Lib.atoi l = some n ∧ atois r = some ns ∧ xs = n :: ns := by
  simp only [atois] at h
  split at h
  · rename_i hl
    split at h
    · rename_i n ns h1 h2
      exact ⟨n, ns, hl, h1, h2, (Option.some.inj h).symm⟩
    · cases h
  · cases h
theorem numOf_len {op : Int} {xs : List Int} {x : Int × Int × Int × Int} (h : numOf op xs = some x) : xs.length ≤ 3 := by
  match xs, h with
  | [], _ => simp
  | [_], _ => simp
  | [_, _], _ => simp
  | [_, _, _], _ => simp
  | _ :: _ :: _ :: _ :: _, h => simp [numOf] at h
theorem atois_len : ∀ {r : List (List UInt8)} {xs : List Int}, atois r = some xs → xs.length = r.length
  | [], xs, h => by cases Option.some.inj h; rfl
  | l :: r, xs, h => by
    obtain ⟨n, ns, _, _, h3, rfl⟩ := atois_cons h
    simp [atois_len h3]
theorem line_calls (s : ByteArray) (r : S65) (h : lineOf s = some r) (w : World) (hE : Env w) :
    Calls Tryz.prog 48 #[.string s] w fun e w' => e = .returned (.agg #[.string r.f0, .int .u8 r.f1.f0, .int .u8 r.f1.f1, .int .u8 r.f1.f2, .int .u8 r.f1.f3, .int .i32 r.f1.f4, .string r.f2]) ∧ Below w.heap.size w w' := by
  cases hcut : (Lib.cut s.data.toList [58, 32]).2.2
  · simp only [lineOf, hcut, if_true, if_false, Bool.false_eq_true] at h
    split at h
    case isFalse => cases h
    rename_i hc
    obtain ⟨hs, hs1, hl2, hsm⟩ := hc
    split at h
    · cases h
    rename_i f0 rest hf
    split at h
    case h_2 => cases h
    rename_i op xs hop hxs
    split at h
    case h_2 => cases h
    rename_i a b c d hnum
    obtain rfl := Option.some.inj h
    have hlen := numOf_len hnum
    have hlen2 := atois_len hxs
    have C1 : ∀ W, Env W → Calls Tryz.prog 89 #[.string s, .string ⟨#[58, 32]⟩] W fun e w' => e = .returned (.tuple #[.string ⟨(Lib.cut s.data.toList [58, 32]).1.toArray⟩, .string ⟨(Lib.cut s.data.toList [58, 32]).2.1.toArray⟩, .bool false]) ∧ Below W.heap.size W w' := fun W hW => by rw [← hcut]; exact cut_contract s ⟨#[58, 32]⟩ hs W hW
    have C2 := fun W hW => cut_contract s ⟨#[32, 45, 62, 32]⟩ hs1 W hW
    have F := fun W hW => fields_contract _ _ hf hl2 hsm W hW
    have NN := fun W => named_calls ⟨f0.toArray⟩ op W hop
    clear h hcut hf
    match rest, xs, hxs, hnum, F, hlen, hlen2 with
    | [], xs, hxs, hnum, F, _, _ =>
      obtain rfl := Option.some.inj hxs
      exact line_0_0 w s _ _ _ _ _  _ op  a b c d hE C1 C2 F NN  (num_0 op  a b c d hnum)
    | [l0], xs, hxs, hnum, F, _, _ =>
      obtain ⟨x0, xs0, q0, e0, t0, rfl⟩ := atois_cons hxs
      obtain rfl := Option.some.inj t0
      exact line_0_1 w s _ _ _ _ _ _ _ op x0 a b c d hE C1 C2 F NN (fun W => atoi_contract l0 x0 q0 e0 W) (num_1 op x0 a b c d hnum)
    | [l0, l1], xs, hxs, hnum, F, _, _ =>
      obtain ⟨x0, xs0, q0, e0, t0, rfl⟩ := atois_cons hxs
      obtain ⟨x1, xs1, q1, e1, t1, rfl⟩ := atois_cons t0
      obtain rfl := Option.some.inj t1
      exact line_0_2 w s _ _ _ _ _ _ _ _ op x0 x1 a b c d hE C1 C2 F NN (fun W => atoi_contract l0 x0 q0 e0 W) (fun W => atoi_contract l1 x1 q1 e1 W) (num_2 op x0 x1 a b c d hnum)
    | [l0, l1, l2], xs, hxs, hnum, F, _, _ =>
      obtain ⟨x0, xs0, q0, e0, t0, rfl⟩ := atois_cons hxs
      obtain ⟨x1, xs1, q1, e1, t1, rfl⟩ := atois_cons t0
      obtain ⟨x2, xs2, q2, e2, t2, rfl⟩ := atois_cons t1
      obtain rfl := Option.some.inj t2
      exact line_0_3 w s _ _ _ _ _ _ _ _ _ op x0 x1 x2 a b c d hE C1 C2 F NN (fun W => atoi_contract l0 x0 q0 e0 W) (fun W => atoi_contract l1 x1 q1 e1 W) (fun W => atoi_contract l2 x2 q2 e2 W) (num_3 op x0 x1 x2 a b c d hnum)
    | _ :: _ :: _ :: _ :: _, xs, hxs, hnum, F, h3, h4 => simp at h4; omega
  · simp only [lineOf, hcut, if_true, if_false, Bool.false_eq_true] at h
    split at h
    case isFalse => cases h
    rename_i hc
    obtain ⟨hs, hs1, hl2, hsm⟩ := hc
    split at h
    · cases h
    rename_i f0 rest hf
    split at h
    case h_2 => cases h
    rename_i op xs hop hxs
    split at h
    case h_2 => cases h
    rename_i a b c d hnum
    obtain rfl := Option.some.inj h
    have hlen := numOf_len hnum
    have hlen2 := atois_len hxs
    have C1 : ∀ W, Env W → Calls Tryz.prog 89 #[.string s, .string ⟨#[58, 32]⟩] W fun e w' => e = .returned (.tuple #[.string ⟨(Lib.cut s.data.toList [58, 32]).1.toArray⟩, .string ⟨(Lib.cut s.data.toList [58, 32]).2.1.toArray⟩, .bool true]) ∧ Below W.heap.size W w' := fun W hW => by rw [← hcut]; exact cut_contract s ⟨#[58, 32]⟩ hs W hW
    have C2 := fun W hW => cut_contract ⟨(Lib.cut s.data.toList [58, 32]).2.1.toArray⟩ ⟨#[32, 45, 62, 32]⟩ hs1 W hW
    have F := fun W hW => fields_contract _ _ hf hl2 hsm W hW
    have NN := fun W => named_calls ⟨f0.toArray⟩ op W hop
    clear h hcut hf
    match rest, xs, hxs, hnum, F, hlen, hlen2 with
    | [], xs, hxs, hnum, F, _, _ =>
      obtain rfl := Option.some.inj hxs
      exact line_1_0 w s _ _ _ _ _  _ op  a b c d hE C1 C2 F NN  (num_0 op  a b c d hnum)
    | [l0], xs, hxs, hnum, F, _, _ =>
      obtain ⟨x0, xs0, q0, e0, t0, rfl⟩ := atois_cons hxs
      obtain rfl := Option.some.inj t0
      exact line_1_1 w s _ _ _ _ _ _ _ op x0 a b c d hE C1 C2 F NN (fun W => atoi_contract l0 x0 q0 e0 W) (num_1 op x0 a b c d hnum)
    | [l0, l1], xs, hxs, hnum, F, _, _ =>
      obtain ⟨x0, xs0, q0, e0, t0, rfl⟩ := atois_cons hxs
      obtain ⟨x1, xs1, q1, e1, t1, rfl⟩ := atois_cons t0
      obtain rfl := Option.some.inj t1
      exact line_1_2 w s _ _ _ _ _ _ _ _ op x0 x1 a b c d hE C1 C2 F NN (fun W => atoi_contract l0 x0 q0 e0 W) (fun W => atoi_contract l1 x1 q1 e1 W) (num_2 op x0 x1 a b c d hnum)
    | [l0, l1, l2], xs, hxs, hnum, F, _, _ =>
      obtain ⟨x0, xs0, q0, e0, t0, rfl⟩ := atois_cons hxs
      obtain ⟨x1, xs1, q1, e1, t1, rfl⟩ := atois_cons t0
      obtain ⟨x2, xs2, q2, e2, t2, rfl⟩ := atois_cons t1
      obtain rfl := Option.some.inj t2
      exact line_1_3 w s _ _ _ _ _ _ _ _ _ op x0 x1 x2 a b c d hE C1 C2 F NN (fun W => atoi_contract l0 x0 q0 e0 W) (fun W => atoi_contract l1 x1 q1 e1 W) (fun W => atoi_contract l2 x2 q2 e2 W) (num_3 op x0 x1 x2 a b c d hnum)
    | _ :: _ :: _ :: _ :: _, xs, hxs, hnum, F, h3, h4 => simp at h4; omega
end Go.Proofs.YtfbmjfponkkaeaaGreatDoor.Num
