/- instr.Named: the instruction of a name: the first of the table's names that is the text. -/
import Derived.Test.YtfbmjfponkkaeaaGreatDoorFamW
import Derived.Laws.EntriesVeiled
namespace Go.Proofs.YtfbmjfponkkaeaaGreatDoor.Fam
open Go.RowKit Go.Proofs.YtfbmjfponkkaeaaGreatDoorW.PrintWords Go.Proofs.YtfbmjfponkkaeaaGreatDoor.Pr
set_option linter.unusedVariables false
set_option linter.unusedSimpArgs false

/-- A row of the table, cell by cell. -/
theorem at_Fam {w : World} {base n c0 : Nat} {A : Option Addr} {fs : List Fam} (h : kFam.R 194 w base (fun _ => True) (.slice A n c0) fs) (k : Nat) (hk : k < n) : ∃ ad B c D d, A = some ad ∧
    w.cell? (ad.add (k * 4)) = some (.int .u8 (fs.getD k zFam).first) ∧ w.cell? ⟨(ad.add (k * 4)).block, (ad.add (k * 4)).off + 1, none⟩ = some (fnV (fs.getD k zFam).form) ∧
    w.cell? ⟨(ad.add (k * 4)).block, (ad.add (k * 4)).off + 2, none⟩ = some (.slice B (fs.getD k zFam).names.length c) ∧ w.cell? ⟨(ad.add (k * 4)).block, (ad.add (k * 4)).off + 3, none⟩ = some (.slice D (fs.getD k zFam).words.length d) ∧
    Kd.string.R 9 w base (fun _ => True) (.slice B (fs.getD k zFam).names.length c) (fs.getD k zFam).names ∧ (Kd.int .u32).R 23 w base (fun _ => True) (.slice D (fs.getD k zFam).words.length d) (fs.getD k zFam).words := by
  obtain ⟨h0, inner, ho, hr⟩ := h
  obtain ⟨A', c', he, hl, hrd⟩ := OwnRow.reads (R := kFam.M w base (fun k => True ∧ some k ≠ (Value.slice A n c0).ownBlock)) ⟨inner, ho, hr⟩
  injection he with e1 e2 e3
  subst e1
  subst e2
  obtain ⟨ad, c, e, _, hM, hc0⟩ := hrd.get_ zFam (k : Int) (by omega) (by omega)
  simp only [Int.toNat_natCast] at hM hc0
  obtain ⟨B, c1, D, d, rfl, h1, h2⟩ := kFam_openM hM
  have hc : ∀ j u, [Value.int .u8 (fs.getD k zFam).first, fnV (fs.getD k zFam).form, .slice B (fs.getD k zFam).names.length c1, .slice D (fs.getD k zFam).words.length d][j]? = some u → w.cell? (ad.add (k * 4 + j)) = some u := hc0
  exact ⟨ad, B, c1, D, d, e, hc 0 _ rfl, by rw [← add_field _ _ 1 (by omega)]; exact hc 1 _ rfl, by rw [← add_field _ _ 2 (by omega)]; exact hc 2 _ rfl, by rw [← add_field _ _ 3 (by omega)]; exact hc 3 _ rfl, Kd.R_mono h1 (fun _ _ => trivial), Kd.R_mono h2 (fun _ _ => trivial)⟩

theorem str_at {w : World} {A : Option Addr} {n : Nat} {xs : List ByteArray} (h : Kd.string.C w A n xs) (j : Nat) (hj : j < n) : ∃ ad, A = some ad ∧ w.cell? (ad.add j) = some (.string (xs.getD j ByteArray.empty)) := by
  obtain ⟨ad, e, hc⟩ := Kd.at_string h (j : Int) (by omega) (by omega)
  exact ⟨ad, e, by simpa [rdOf] using hc⟩

/-- Where a name stands: a number of an instruction. -/
def namedIn (s : ByteArray) : List Fam → Option Int
  | [] => none
  | f :: r => match f.names.idxOf? s with
    | some j => some (f.first + j)
    | none => namedIn s r
theorem fam_bounds : ∀ k, k < 18 → 0 ≤ (theFams.getD k zFam).first ∧ (theFams.getD k zFam).first + (theFams.getD k zFam).names.length ≤ 100 ∧ (theFams.getD k zFam).names.length ≤ 20 ∧ (theFams.getD k zFam).words.length ≤ 20 := by decide +kernel
theorem fam_drop (k : Nat) (hk : k < 18) : theFams.drop k = theFams.getD k zFam :: theFams.drop (k + 1) := by
  have hl : k < theFams.length := hk
  rw [List.drop_eq_getElem_cons hl, List.getD_eq_getElem?_getD, List.getElem?_eq_getElem hl, Option.getD_some]
theorem named_end {s : ByteArray} {n : Int} {k : Nat} (h : namedIn s (theFams.drop k) = some n) (hk : 18 ≤ k) : False := by
  rw [List.drop_of_length_le (show theFams.length ≤ k from hk)] at h
  simp [namedIn] at h
theorem idx_first {s : ByteArray} : ∀ (l : List ByteArray) (j : Nat), (∀ i, i < j → (l.getD i ByteArray.empty == s) = false) → j < l.length → (l.getD j ByteArray.empty == s) = true → l.idxOf? s = some j
  | [], j, _, hj, _ => by simp at hj
  | x :: l, 0, _, _, h => by
    have : (x == s) = true := by simpa using h
    simp [List.idxOf?, List.findIdx?_cons, this]
  | x :: l, j + 1, hb, hj, h => by
    have h0 : (x == s) = false := by simpa using hb 0 (by omega)
    have ih := idx_first l j (fun i hi => by simpa using hb (i + 1) (by omega)) (by simpa using hj) (by simpa using h)
    simp only [List.idxOf?, List.findIdx?_cons, h0] at ih ⊢
    simp [ih]
theorem idx_none {s : ByteArray} : ∀ (l : List ByteArray), (∀ i, i < l.length → (l.getD i ByteArray.empty == s) = false) → l.idxOf? s = none
  | [], _ => rfl
  | x :: l, hb => by
    have h0 : (x == s) = false := by simpa using hb 0 (by simp)
    have ih := idx_none l (fun i hi => by simpa using hb (i + 1) (by simpa using hi))
    simp only [List.idxOf?, List.findIdx?_cons, h0] at ih ⊢
    simp [ih]
theorem snoc_all {p : Nat → Prop} {j : Nat} (h : ∀ i, i < j → p i) (hj : p j) : ∀ i, i < j + 1 → p i := by
  intro i hi
  rcases Nat.lt_or_ge i j with h1 | h1
  · exact h i h1
  · obtain rfl : i = j := by omega
    exact hj
set_option maxHeartbeats 4000000 in
set_option maxRecDepth 100000 in
theorem named_calls (s : ByteArray) (n : Int) (w : World) (h : namedIn s theFams = some n) : Calls Tryz.prog 91 #[.string s] w fun e w' => e = .returned (.tuple #[.int .u8 n, .bool true]) ∧ Below w.heap.size w w' := by
  have H := Aside0.mk h
  clear h
  have hu194 := Tryz.underlying194
  go_enter Tryz.func91, Tryz.ntmps91
  go_wp2_with (go_at_call 134; refine (families_calls _).mono ?_; rintro e w1 ⟨A, c, rfl, hC0, hB0⟩; have HC := Aside0.mk hC0; have HB := Aside0.mk hB0; clear hC0 hB0)
  go_loopg [10] 18 (fun q v w' => ∃ k : Nat, v = .int .i64 k ∧ q + k = 18 ∧ Aside0 (namedIn s (theFams.drop k) = some n) ∧ Aside0 (kFam.R 194 w' w.heap.size (fun _ => True) (.slice A 18 c) theFams) ∧ Aside0 (Below w.heap.size w w'))
  case atStart => exact ⟨0, rfl, rfl, H, HC, HB⟩
  case round =>
    clear HC HB H
    obtain ⟨k, rfl, hq0, HN, HC, HB⟩ := hrel
    have HQ := Aside0.mk hq0
    clear hq0
    have hlt : k < 18 := by
      rcases Nat.lt_or_ge k 18 with h | h
      · exact h
      · exact (named_end HN.out h).elim
    have hdl : decide ((k : Int) < 18) = true := decide_eq_true (by omega)
    have hb := fam_bounds k hlt
    have HD := Aside0.mk (fam_drop k hlt)
    obtain ⟨ad, B, c1, D, d, eA, h0, h1, h2, h3, hS0, hW⟩ := at_Fam HC.out k hlt
    have hS := (Kd.R_reads' hS0).2.2
    clear hS0
    cases eA
    generalize theFams.getD k zFam = f at *
    have HS := Aside0.mk hS
    have HW := Aside0.mk hW
    clear hS hW
    obtain ⟨b0, b1, b2, b3⟩ := hb
    simp only [fnV] at h1
    go_wp2_with fail
    clear h0 h1 h2 h3
    obtain ⟨wo, hwo⟩ : ∃ wo : World, wo = wr := ⟨_, rfl⟩
    subst hwo
    go_loopg [17] f.names.length (fun q v w' => ∃ j : Nat, v = .int .i64 j ∧ Aside0 (q + j = f.names.length) ∧ Aside0 (∀ i, i < j → (f.names.getD i ByteArray.empty == s) = false) ∧ Aside0 (w' = wo.alloc (.cells #[.int .u8 f.first, .func (.func f.form) #[] #[], .slice B f.names.length c1, .slice D f.words.length d] 194)))
    case atStart => exact ⟨0, rfl, ⟨by simp⟩, ⟨fun i hi => by omega⟩, ⟨rfl⟩⟩
    case round =>
      obtain ⟨j, rfl, HQ2, HI, HW2⟩ := hrel
      obtain rfl := HW2.out
      by_cases hj : j < f.names.length
      · obtain ⟨ad2, eB, hcell⟩ := str_at HS.out j hj
        cases eB
        have hcell2 := pw_cell_below (below_1 wo (.cells #[.int .u8 f.first, .func (.func f.form) #[] #[], .slice (some ad2) f.names.length c1, .slice D f.words.length d] 194)) hcell
        have hdj : decide (j < f.names.length) = true := decide_eq_true hj
        obtain ⟨nm, hnm⟩ : ∃ nm, nm = f.names.getD j ByteArray.empty := ⟨_, rfl⟩
        rw [← hnm] at hcell2
        have HNM := Aside0.mk hnm
        clear hcell hnm
        by_cases he : (nm.toList == s.toList) = true
        · have hs : (f.names.getD j ByteArray.empty == s) = true := by rw [← HNM.out, beq_toListBytes]; exact he
          have hn := HN.out
          rw [HD.out, namedIn, idx_first f.names j HI.out hj hs] at hn
          have HE := Aside0.mk (Option.some.inj hn)
          clear hn hs
          go_wp2_with fail
          go_ret2
          exact ⟨by rw [← HE.out]; rfl, below_alloc HB.out _⟩
        · have he' : (nm.toList == s.toList) = false := by simpa using he
          clear he
          have hs : (f.names.getD j ByteArray.empty == s) = false := by rw [← HNM.out, beq_toListBytes]; exact he'
          have HS2 := Aside0.mk hs
          clear hs
          go_wp2_with fail
          go_roundg (gk - 1)
          case measure => have := HQ2.out; omega
          case rel => exact ⟨j + 1, by go_num, ⟨by have := HQ2.out; omega⟩, ⟨snoc_all HI.out HS2.out⟩, ⟨rfl⟩⟩
      · have hdj : decide (j < f.names.length) = false := decide_eq_false hj
        have hn := HN.out
        rw [HD.out, namedIn, idx_none f.names (fun i hi => HI.out i (by omega))] at hn
        have HN2 := Aside0.mk hn
        clear hn
        go_wp2_with fail
        go_roundg (17 - k)
        case measure => have := HQ.out; omega
        case rel => exact ⟨k + 1, by go_num, by have := HQ.out; omega, HN2, ⟨Kd.R_below HC.out (below_1 _ _)⟩, ⟨below_alloc HB.out _⟩⟩

end Go.Proofs.YtfbmjfponkkaeaaGreatDoor.Fam
