import Derived.Test.YtfbmjfponkkaeaaGreatDoorLine
import Derived.Lib.AppendIntMem
namespace Go.Proofs.YtfbmjfponkkaeaaGreatDoor.Num
open Go.RowKit Go.Proofs.YtfbmjfponkkaeaaGreatDoorW.PrintWords Go.Proofs.YtfbmjfponkkaeaaGreatDoor.Pr
set_option linter.unusedVariables false
set_option linter.unusedSimpArgs false
def items (f : Int → ByteArray) (a : Int) (n : Nat) : List ByteArray := (List.range n).map fun (i : Nat) => f (a + (i : Int))
theorem items_snoc (f : Int → ByteArray) (a : Int) (n : Nat) : (items f a (n + 1)).map Value.string = (items f a n).map Value.string ++ [.string (f (a + n))] := by simp [items, List.range_succ]
theorem items_len (f : Int → ByteArray) (a : Int) (n : Nat) : (items f a n).length = n := by simp [items]
theorem add_z (g j : Nat) : (⟨g, 0, none⟩ : Addr).add j = ⟨g, 0 + j, none⟩ := by unfold Addr.add; split <;> simp_all
theorem own_shape2 {w : World} {base n : Nat} {e : TypeId} {size : Nat} {v : Value} {xs : List Value} (h : w.ownsRow base e size v n xs) (hn : n ≠ 0) : ∃ g c, v = .slice (some ⟨g, 0, none⟩) n c ∧ base ≤ g ∧ g < w.heap.size ∧ n ≤ c := by
  rcases h.2 with ⟨_, h0⟩ | ⟨g, cap, cur, rfl, hb, hh, hc, _⟩
  · exact (hn h0).elim
  · exact ⟨g, cap, rfl, hb, blk_lt hh, hc⟩
set_option maxHeartbeats 400000 in
set_option maxRecDepth 100000 in
theorem each_walk (w : World) (a : Int) (n : Nat) (t J : ByteArray) (dg it1 it2 : Int → ByteArray) (hE : Env w) (hn : 0 < n) (ha : 0 ≤ a) (hb : a + n ≤ 1000)
    (h1 : ∀ r, -1000 ≤ r → r ≤ 1000 → ∀ W, Env W → Calls Tryz.prog 130 #[.int .i64 r] W fun e w' => e = .returned (.string (dg r)) ∧ Below W.heap.size W w')
    (h2 : ∀ r, a ≤ r → r < a + n → ∀ W, Env W → Calls Tryz.prog 129 #[.string t, .string ⟨#[82]⟩, .string (dg r)] W fun e w' => e = .returned (.string (it1 r)) ∧ Below W.heap.size W w')
    (h3 : ∀ r, a ≤ r → r < a + n → ∀ W, Env W → Calls Tryz.prog 129 #[.string (it1 r), .string ⟨#[78]⟩, .string (dg (r - 10))] W fun e w' => e = .returned (.string (it2 r)) ∧ Below W.heap.size W w')
    (hJ : ∀ (W : World) (bk c : Nat), (∀ (j : Nat) x, (items it2 a n)[j]? = some x → W.cell? ⟨bk, 0 + j, none⟩ = some (.string x)) → bk < W.heap.size → n ≤ c →
      Calls Tryz.prog 87 #[.slice (some ⟨bk, 0, none⟩) n c, .string ⟨#[124]⟩] W fun e w' => e = .returned (.string J) ∧ Below W.heap.size W w') :
    Calls Tryz.prog 88 #[.string t, .int .i64 a, .int .i64 (a + n - 1)] w fun e w' => e = .returned (.string J) ∧ Below w.heap.size w w' := by
  have HE := Aside0.mk hE
  have H1 := Aside0.mk h1
  have H2 := Aside0.mk h2
  have H3 := Aside0.mk h3
  have HJ := Aside0.mk hJ
  have Hn := Aside0.mk hn
  have Ha := Aside0.mk ha
  have Hb := Aside0.mk hb
  clear hE h1 h2 h3 hJ hn ha hb
  go_enter Tryz.func88, Tryz.ntmps88
  go_wp2_with fail
  go_loopg [7, 8] n (fun q v v8 w' => ∃ k : Nat, v8 = .int .i64 (a + k) ∧ q + k = n ∧ Aside0 (w'.ownsRow w.heap.size 9 1 v k ((items it2 a k).map Value.string)) ∧ Aside0 (Below w.heap.size w w'))
  case atStart => exact ⟨0, by simp, rfl, ⟨World.ownsRow_nil _ _ _ _⟩, ⟨Below.refl _ _⟩⟩
  case round =>
    obtain ⟨k, rfl, hq0, HO, HB⟩ := hrel
    have HQ := Aside0.mk hq0
    clear hq0
    rename_i v _
    by_cases hk : k < n
    · have hd : decide (a + (k : Int) ≤ a + n - 1) = true := decide_eq_true (by omega)
      go_wp2_with fail
      have ka : 0 ≤ a := Ha.out
      have kb : a + n ≤ 1000 := Hb.out
      refine (H1.out (a + k) (by omega) (by omega) _ (HE.out.below HB.out)).mono ?_
      rintro e w1 ⟨rfl, hb1⟩
      replace HO := Aside0.mk (own_below HO.out hb1)
      replace HB := Aside0.mk (below_step HB.out hb1)
      clear hb1 ka kb
      go_wp2_with fail
      refine (H2.out (a + k) (by omega) (by omega) _ (HE.out.below HB.out)).mono ?_
      rintro e w2 ⟨rfl, hb1⟩
      replace HO := Aside0.mk (own_below HO.out hb1)
      replace HB := Aside0.mk (below_step HB.out hb1)
      clear hb1
      go_wp2_with fail
      have ka : 0 ≤ a := Ha.out
      have kb : a + n ≤ 1000 := Hb.out
      have hw : wrap64 (a + (k : Int) - 10) = a + k - 10 := by unfold wrap64; omega
      rw [hw]
      refine (H1.out (a + k - 10) (by omega) (by omega) _ (HE.out.below HB.out)).mono ?_
      rintro e w3 ⟨rfl, hb1⟩
      replace HO := Aside0.mk (own_below HO.out hb1)
      replace HB := Aside0.mk (below_step HB.out hb1)
      clear hb1 ka kb
      go_wp2_with fail
      refine (H3.out (a + k) (by omega) (by omega) _ (HE.out.below HB.out)).mono ?_
      rintro e w4 ⟨rfl, hb1⟩
      replace HO := Aside0.mk (own_below HO.out hb1)
      replace HB := Aside0.mk (below_step HB.out hb1)
      clear hb1
      go_wp2_with (first | ((with_reducible refine gate_builtin (b := .append) (xs := #[.tmp 20, .tmp 26]) rfl ?_); at_builtin; refine print_append (w0 := w) w.heap.size rfl (.tmp 20) (.tmp 26) 95 9 (.string ⟨#[]⟩) 16 rfl Tryz.underlying95 (by kernel_rfl) rfl (by decide) u7 ((items it2 a k).map Value.string) (.string (it2 (a + k))) rfl rfl rfl (by rw [List.length_map, items_len]; exact HO.out) HB.out HB.out.size (by rw [List.length_map, items_len]; have := Hb.out; have := Ha.out; omega) ?_; intro v1 w5 hown hB hg hat; rw [← items_snoc, List.length_map, items_len] at hown; have HO1 := Aside0.mk hown; have HB1 := Aside0.mk hB; clear hown hB hg hat))
      go_roundg (n - k - 1)
      case measure => have := HQ.out; omega
      case rel => exact ⟨k + 1, by have := Ha.out; have := Hb.out; rw [show wrap64 (a + (k : Int) + 1) = a + ((k + 1 : Nat) : Int) from by unfold wrap64; omega], by have := HQ.out; omega, HO1, HB1⟩
    · have hd : decide (a + (k : Int) ≤ a + n - 1) = false := decide_eq_false (by omega)
      obtain rfl : k = n := by have := HQ.out; omega
      obtain ⟨g, c, rfl, hbg, hlt, hcap⟩ := own_shape2 HO.out (by have := Hn.out; omega)
      have HG := Aside0.mk (And.intro hlt hcap)
      clear hbg hlt hcap
      go_wp2_with fail
      refine (HJ.out _ g c (fun j x hx => by rw [← add_z]; exact HO.out.cells (g := g) rfl j (.string x) (by rw [List.getElem?_map, hx]; rfl)) HG.out.1 HG.out.2).mono ?_
      rintro e w1 ⟨rfl, hb1⟩
      replace HB := Aside0.mk (below_step HB.out hb1)
      clear hb1
      go_wp2_with fail
      go_ret
      exact ⟨rfl, HB.out⟩

/-! ### At the library's functions -/
def dgOf (r : Int) : ByteArray := ⟨(Lib.itoa r).toArray⟩
def it1Of (t : ByteArray) (r : Int) : ByteArray := ⟨(Lib.replaceAll t.data.toList [82] (Lib.itoa r)).toArray⟩
def it2Of (t : ByteArray) (r : Int) : ByteArray := ⟨(Lib.replaceAll (it1Of t r).data.toList [78] (Lib.itoa (r - 10))).toArray⟩
def eachOf (t : ByteArray) (a : Int) (n : Nat) : ByteArray := ⟨(Lib.join ((items (it2Of t) a n).map (·.data.toList)) [124]).toArray⟩
def eachOk (t : ByteArray) (a : Int) (n : Nat) : Bool := decide (t.size < 4294967281) && decide ((eachOf t a n).size ≤ 140737488355328) &&
  (List.range n).all fun (i : Nat) => decide (t.size + Lib.countB t ⟨#[82]⟩ * (dgOf (a + (i : Int))).size ≤ 140737488355328) && decide ((it1Of t (a + (i : Int))).size < 4294967281) && decide ((it1Of t (a + (i : Int))).size + Lib.countB (it1Of t (a + (i : Int))) ⟨#[78]⟩ * (dgOf (a + (i : Int) - 10)).size ≤ 140737488355328)
theorem each_calls (t : ByteArray) (a : Int) (n : Nat) (h : eachOk t a n = true) (hn : 0 < n) (ha : 0 ≤ a) (hb : a + n ≤ 1000) (w : World) (hE : Env w) :
    Calls Tryz.prog 88 #[.string t, .int .i64 a, .int .i64 (a + n - 1)] w fun e w' => e = .returned (.string (eachOf t a n)) ∧ Below w.heap.size w w' := by
  simp only [eachOk, Bool.and_eq_true, decide_eq_true_eq, List.all_eq_true, List.mem_range] at h
  obtain ⟨⟨h1, h2⟩, h3⟩ := h
  have hk : ∀ r, a ≤ r → r < a + n → ∃ i : Nat, i < n ∧ r = a + (i : Int) := fun r hr1 hr2 => ⟨(r - a).toNat, by omega, by omega⟩
  refine each_walk w a n t _ dgOf (it1Of t) (it2Of t) hE hn ha hb ?_ ?_ ?_ ?_
  · intro r hr1 hr2 W hW
    refine (Tryz.strconv_Itoa r (by omega) (by omega) W hW.p10).mono ?_
    rintro e w' ⟨rfl, k, os, rfl⟩
    exact ⟨rfl, Go.Lib.below_grow _ _ (Nat.le_refl _) _ _⟩
  · intro r hr1 hr2 W hW
    obtain ⟨i, hi, rfl⟩ := hk r hr1 hr2
    obtain ⟨m, hm⟩ := hW.ml
    exact Tryz.strings_ReplaceAll t ⟨#[82]⟩ (dgOf _) m W h1 hm (by decide) (h3 i hi).1.1
  · intro r hr1 hr2 W hW
    obtain ⟨i, hi, rfl⟩ := hk r hr1 hr2
    obtain ⟨m, hm⟩ := hW.ml
    exact Tryz.strings_ReplaceAll (it1Of t _) ⟨#[78]⟩ (dgOf _) m W (h3 i hi).1.2 hm (by decide) (h3 i hi).2
  · intro W bk c hc hbk hcap
    have hj := Tryz.strings_Join bk 0 c (items (it2Of t) a n) ⟨#[124]⟩ W hc hbk (by rw [items_len]; omega) (by rw [items_len]; exact hcap) h2
    rw [items_len] at hj
    exact hj
