/- instr.families: the table of all instructions, as it comes back: its rows in new memory. -/
import Derived.Test.YtfbmjfponkkaeaaGreatDoorPrA
namespace Go.Proofs.YtfbmjfponkkaeaaGreatDoor.Fam
open Go.RowKit Go.Proofs.YtfbmjfponkkaeaaGreatDoorW.PrintWords Go.Proofs.YtfbmjfponkkaeaaGreatDoor.Pr
set_option linter.unusedVariables false
set_option linter.unusedSimpArgs false

def fnV (n : Nat) : Value := .func (.func n) #[] #[]
structure Fam where
  first : Int
  form : Nat
  names : List ByteArray
  words : List Int
def zFam : Fam := ⟨0, 0, [], []⟩
def kFn : Kd Nat := Kd.scalar fnV (fun _ => rfl)
def kFam : Kd Fam := Kd.iso (Kd.pair (Kd.int .u8) (Kd.pair kFn (Kd.pair (Kd.slice 9 Kd.string) (Kd.slice 23 (Kd.int .u32))))) (fun x : Fam => (x.first, x.form, x.names, x.words))
theorem kFam_open {w : World} {x : Fam} {cs : List Value} (h : kFam.K w x cs) : ∃ A c B d, cs = [.int .u8 x.first, fnV x.form, .slice A x.names.length c, .slice B x.words.length d] ∧ x.names.length ≤ c ∧ Kd.string.C w A x.names.length x.names ∧ x.words.length ≤ d ∧ (Kd.int .u32).C w B x.words.length x.words := by
  obtain ⟨_, _, rfl, rfl, ⟨_, _, rfl, rfl, ⟨_, _, rfl, ⟨A, c, rfl, hc, hA⟩, ⟨B, d, rfl, hd, hB⟩⟩⟩⟩ := h
  exact ⟨A, c, B, d, rfl, hc, hA, hd, hB⟩
theorem kFam_mkM {w : World} {base : Nat} {ok : Nat → Prop} {x : Fam} {u v : Value} (hA : Kd.string.R 9 w base ok u x.names) (hB : (Kd.int .u32).R 23 w base ok v x.words) : kFam.M w base ok x [.int .u8 x.first, fnV x.form, u, v] :=
  ⟨_, _, rfl, rfl, ⟨_, _, rfl, rfl, ⟨_, _, rfl, ⟨u, rfl, hA⟩, ⟨v, rfl, hB⟩⟩⟩⟩
theorem kFam_openM {w : World} {base : Nat} {ok : Nat → Prop} {x : Fam} {cs : List Value} (h : kFam.M w base ok x cs) : ∃ A c B d, cs = [.int .u8 x.first, fnV x.form, .slice A x.names.length c, .slice B x.words.length d] ∧ Kd.string.R 9 w base ok (.slice A x.names.length c) x.names ∧ (Kd.int .u32).R 23 w base ok (.slice B x.words.length d) x.words := by
  obtain ⟨_, _, rfl, rfl, ⟨_, _, rfl, rfl, ⟨_, _, rfl, ⟨u, rfl, hu⟩, ⟨v, rfl, hv⟩⟩⟩⟩ := h
  obtain ⟨A, c, rfl⟩ := Kd.R_slice hu
  obtain ⟨B, d, rfl⟩ := Kd.R_slice hv
  exact ⟨A, c, B, d, rfl, hu, hv⟩
theorem kFam_mk {w : World} {x : Fam} {A B : Option Addr} {c d : Nat} (hc : x.names.length ≤ c) (hA : Kd.string.C w A x.names.length x.names) (hd : x.words.length ≤ d) (hB : (Kd.int .u32).C w B x.words.length x.words) : kFam.K w x [.int .u8 x.first, fnV x.form, .slice A x.names.length c, .slice B x.words.length d] :=
  ⟨_, _, rfl, rfl, ⟨_, _, rfl, rfl, ⟨_, _, rfl, ⟨A, c, rfl, hc, hA⟩, ⟨B, d, rfl, hd, hB⟩⟩⟩⟩

def Rows (base : Nat) (w : World) (fs : List Fam) (inner : List Value) : Prop := Reps (kFam.M w base (fun _ => True)) 4 fs inner
theorem Rows.nil (base : Nat) (w : World) : Rows base w [] [] := Reps.none _ _
theorem Rows.below {base : Nat} {w w' : World} {fs : List Fam} {inner : List Value} (h : Rows base w fs inner) (hb : Below w.heap.size w w') : Rows base w' fs inner := h.imp_ fun _ _ hp => Kd.M_below hp hb
theorem str_lit (W : World) (base : Nat) (hb : base ≤ W.heap.size) (names : List ByteArray) (hm : names.length ≤ 9223372036854775807) : Kd.string.R 9 (W.alloc (.cells (pw_strs names).toArray 9)) base (fun _ => True) (.slice (some ⟨W.heap.size, 0, none⟩) names.length names.length) names :=
  Kd.R_of_own (own_lit_of (enc := Value.string) W base 9 names hb hm) (fun _ _ => trivial)
theorem num_lit (W : World) (base : Nat) (hb : base ≤ W.heap.size) (k : IntKind) (e : TypeId) (xs : List Int) (hm : xs.length ≤ 9223372036854775807) : (Kd.int k).R e (W.alloc (.cells (nums k xs).toArray e)) base (fun _ => True) (.slice (some ⟨W.heap.size, 0, none⟩) xs.length xs.length) xs :=
  Kd.R_of_own (own_lit_of (enc := Value.int k) W base e xs hb hm) (fun _ _ => trivial)
theorem below_1 (W : World) (o : Obj) : Below W.heap.size W (W.alloc o) := (Below.refl _ _).alloc (Nat.le_refl _) _
theorem below_two {w0 W : World} (h : Below w0.heap.size w0 W) (a b : Obj) : Below w0.heap.size w0 ((W.alloc a).alloc b) := below_alloc (below_alloc h a) b
/-- A family without a call: two literals. -/
theorem Rows.two {base : Nat} {W : World} {fs : List Fam} {inner : List Value} (HF : Rows base W fs inner) (hb : base ≤ W.heap.size) (first : Int) (fn : Nat) (names : List ByteArray) (words : List Int) {N M : Nat} (hN : W.heap.size = N) (hM : W.heap.size + 1 = M) (hs : names.length ≤ 100) (hs' : words.length ≤ 100) :
    Rows base ((W.alloc (.cells (pw_strs names).toArray 9)).alloc (.cells (nums .u32 words).toArray 23)) (fs ++ [⟨first, fn, names, words⟩])
      (inner ++ [.int .u8 first, fnV fn, .slice (some ⟨N, 0, none⟩) names.length names.length, .slice (some ⟨M, 0, none⟩) words.length words.length]) := by
  subst hN
  subst hM
  refine Reps.snoc ((HF.below (below_1 _ _)).below (below_1 _ _)) (kFam_mkM (Kd.R_below (str_lit W base hb names (by omega)) (below_1 _ _)) ?_) rfl
  have := num_lit (W.alloc (.cells (pw_strs names).toArray 9)) base (by simp; omega) .u32 23 words (by omega)
  rw [World.size_alloc] at this
  exact this
/-- A family whose words are reckoned by a call. -/
theorem Rows.call {w0 W : World} {fs : List Fam} {inner : List Value} (HF : Rows w0.heap.size W fs inner) (HB : Below w0.heap.size w0 W) (first : Int) (fn : Nat) (names : List ByteArray) (args words : List Int) {N M : Nat} (hN : W.heap.size = N) (hM : W.heap.size + 1 = M) (hs : names.length ≤ 100) (hs' : args.length ≤ 100)
    {f : FuncId} {ar : Array Value}
    (hc : ∀ w (A : Option Addr), (Kd.int .u32).C w A args.length args → A = some ⟨M, 0, none⟩ → Calls Tryz.prog f ar w fun e w' => ∃ v0_ : Value, e = .returned (v0_) ∧ Kd.R (Kd.int .u32) 23 w' w.heap.size (fun _ => True) v0_ words ∧ Below w.heap.size w w') :
    Calls Tryz.prog f ar ((W.alloc (.cells (pw_strs names).toArray 9)).alloc (.cells (nums .u32 args).toArray 23)) fun e w' => ∃ B d, e = .returned (.slice B words.length d) ∧
      Rows w0.heap.size w' (fs ++ [⟨first, fn, names, words⟩]) (inner ++ [.int .u8 first, fnV fn, .slice (some ⟨N, 0, none⟩) names.length names.length, .slice B words.length d]) ∧ Below w0.heap.size w0 w' := by
  subst hN
  have hsz := HB.size
  have h2 := (Kd.R_reads' (num_lit (W.alloc (.cells (pw_strs names).toArray 9)) w0.heap.size (by simp; omega) .u32 23 args (by omega))).2.2
  rw [World.size_alloc, hM] at h2
  refine (hc _ _ h2 rfl).mono ?_
  rintro e w' ⟨v, rfl, hR, hB⟩
  have hb1 : Below W.heap.size W w' := below_then (below_then (below_1 W _) (by simp) (below_1 _ _)) (by simp; omega) hB
  obtain ⟨A, c, rfl⟩ := Kd.R_slice hR
  refine ⟨_, _, rfl, Reps.snoc (HF.below hb1) (kFam_mkM (Kd.R_below (str_lit W w0.heap.size hsz names (by omega)) ?_) (Kd.R_lower hR (by simp; omega))) rfl, below_then HB HB.size hb1⟩
  exact below_then (below_1 _ _) (by simp) hB
structure St (w0 W : World) (fs : List Fam) (inner : List Value) : Prop where
  rows : Rows w0.heap.size W fs inner
  below : Below w0.heap.size w0 W
theorem St.nil (w : World) : St w w [] [] := ⟨Rows.nil _ w, Below.refl _ _⟩
theorem St.two {w0 W : World} {fs : List Fam} {inner : List Value} (H : St w0 W fs inner) (first : Int) (fn : Nat) (names : List ByteArray) (words : List Int) {N M : Nat} (hN : W.heap.size = N) (hM : W.heap.size + 1 = M) (hs : names.length ≤ 100) (hs' : words.length ≤ 100) :
    St w0 ((W.alloc (.cells (pw_strs names).toArray 9)).alloc (.cells (nums .u32 words).toArray 23)) (fs ++ [⟨first, fn, names, words⟩])
      (inner ++ [.int .u8 first, fnV fn, .slice (some ⟨N, 0, none⟩) names.length names.length, .slice (some ⟨M, 0, none⟩) words.length words.length]) :=
  ⟨H.rows.two H.below.size first fn names words hN hM hs hs', below_two H.below _ _⟩
theorem St.f3 {w0 W : World} {fs : List Fam} {inner : List Value} (H : St w0 W fs inner) (first : Int) (fn : Nat) (names : List ByteArray) (code : Int) (args words : List Int) {N M : Nat} (hN : W.heap.size = N) (hM : W.heap.size + 1 = M) (hs : names.length ≤ 100) (hs' : args.length ≤ 100) (hf : instr_f3.f 40 code args = some words) :
    Calls Tryz.prog 156 #[.int .u32 code, .slice (some ⟨M, 0, none⟩) args.length args.length] ((W.alloc (.cells (pw_strs names).toArray 9)).alloc (.cells (nums .u32 args).toArray 23)) fun e w' => ∃ B d, e = .returned (.slice B words.length d) ∧
      St w0 w' (fs ++ [⟨first, fn, names, words⟩]) (inner ++ [.int .u8 first, fnV fn, .slice (some ⟨N, 0, none⟩) names.length names.length, .slice B words.length d]) :=
  (Rows.call H.rows H.below first fn names args words hN hM hs hs' (f := 156) (ar := #[.int .u32 code, .slice (some ⟨M, 0, none⟩) args.length args.length]) fun w A hA e => by subst e; exact instr_f3.calls 40 code _ _ args words w hA (Nat.le_refl _) hf).mono fun _ _ ⟨B, d, he, h1, h2⟩ => ⟨B, d, he, h1, h2⟩
theorem St.f7 {w0 W : World} {fs : List Fam} {inner : List Value} (H : St w0 W fs inner) (first : Int) (fn : Nat) (names : List ByteArray) (code : Int) (args words : List Int) {N M : Nat} (hN : W.heap.size = N) (hM : W.heap.size + 1 = M) (hs : names.length ≤ 100) (hs' : args.length ≤ 100) (hf : instr_f7.f 40 code args = some words) :
    Calls Tryz.prog 159 #[.int .u32 code, .slice (some ⟨M, 0, none⟩) args.length args.length] ((W.alloc (.cells (pw_strs names).toArray 9)).alloc (.cells (nums .u32 args).toArray 23)) fun e w' => ∃ B d, e = .returned (.slice B words.length d) ∧
      St w0 w' (fs ++ [⟨first, fn, names, words⟩]) (inner ++ [.int .u8 first, fnV fn, .slice (some ⟨N, 0, none⟩) names.length names.length, .slice B words.length d]) :=
  (Rows.call H.rows H.below first fn names args words hN hM hs hs' (f := 159) (ar := #[.int .u32 code, .slice (some ⟨M, 0, none⟩) args.length args.length]) fun w A hA e => by subst e; exact instr_f7.calls 40 code _ _ args words w hA (Nat.le_refl _) hf).mono fun _ _ ⟨B, d, he, h1, h2⟩ => ⟨B, d, he, h1, h2⟩
theorem St.source {w0 W : World} {fs : List Fam} {inner : List Value} (H : St w0 W fs inner) (first : Int) (fn : Nat) (names : List ByteArray) (args words : List Int) {N M : Nat} (hN : W.heap.size = N) (hM : W.heap.size + 1 = M) (hs : names.length ≤ 100) (hs' : args.length ≤ 100) (hf : instr_source.f 40 args = some words) :
    Calls Tryz.prog 163 #[.slice (some ⟨M, 0, none⟩) args.length args.length] ((W.alloc (.cells (pw_strs names).toArray 9)).alloc (.cells (nums .u32 args).toArray 23)) fun e w' => ∃ B d, e = .returned (.slice B words.length d) ∧
      St w0 w' (fs ++ [⟨first, fn, names, words⟩]) (inner ++ [.int .u8 first, fnV fn, .slice (some ⟨N, 0, none⟩) names.length names.length, .slice B words.length d]) :=
  (Rows.call H.rows H.below first fn names args words hN hM hs hs' (f := 163) (ar := #[.slice (some ⟨M, 0, none⟩) args.length args.length]) fun w A hA e => by subst e; exact instr_source.calls 40 _ _ args words w hA (Nat.le_refl _) hf).mono fun _ _ ⟨B, d, he, h1, h2⟩ => ⟨B, d, he, h1, h2⟩
theorem St.done {w0 W : World} {fs : List Fam} {inner : List Value} (H : St w0 W fs inner) {N n : Nat} (hN : W.heap.size = N) (hl : fs.length = n) (hs : n ≤ 100) {cells : Array Value} (hc : inner.toArray = cells) :
    kFam.R 194 (W.alloc (.cells cells 194)) w0.heap.size (fun _ => True) (.slice (some ⟨N, 0, none⟩) n n) fs ∧ Below w0.heap.size w0 (W.alloc (.cells cells 194)) := by
  subst hN
  subst hl
  subst hc
  refine ⟨⟨fun _ _ => trivial, ?_⟩, below_alloc H.below _⟩
  have hr : Reps (kFam.M (W.alloc (.cells inner.toArray 194)) w0.heap.size (fun k => True ∧ some k ≠ (Value.slice (some ⟨W.heap.size, 0, none⟩) fs.length fs.length).ownBlock)) 4 fs inner := by
    refine H.rows.imp_ fun p c hp => kFam.M_mono (fun k hk => ⟨trivial, fun he => ?_⟩) (Kd.M_below (kFam.M_bound hp) (below_1 W (.cells inner.toArray 194)))
    have h3 : k = W.heap.size := by simpa [Value.ownBlock] using he
    have := hk.2.2.1
    omega
  exact OwnRow.lit W w0.heap.size hr H.below.size (by omega)
end Go.Proofs.YtfbmjfponkkaeaaGreatDoor.Fam
