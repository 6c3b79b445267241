/- A variable whose type bears no pointer and that reads as a datum holds its cells. -/
import Derived.Test.YtjcmbnpabkhcfaaGreatDoorLive
import Derived.Lib.LaidTab
import Derived.Lib.LaidU8
import Derived.ChangeArms
namespace Go.Proofs.YtjcmbnpabkhcfaaGreatDoor
open Go.RowKit
set_option linter.unusedVariables false
set_option linter.unusedSimpArgs false
def runT {α : Type} (P : Program) (off : α → Nat) (ty : α → TypeId) : Nat → List α → Option Nat
  | o, [] => some o
  | o, a :: l => match decide (off a = o) with
    | true => runT P off ty (o + P.cellsOf (ty a)) l
    | false => none
def okT (P : Program) : Nat → TypeId → Bool
  | 0, _ => false
  | f + 1, t => match P.underlying t with
    | some .bool => true
    | some (.int _) => true
    | some (.float _) => true
    | some (.struct fs) => decide (runT P (fun (x : Field) => x.offset) (fun x => x.type) 0 fs.toList = some (P.cellsOf t)) && fs.toList.all fun x => okT P f x.type
    | some (.array n e) => decide (runT P (fun i => i * P.cellsOf e) (fun _ => e) 0 (List.range n) = some (P.cellsOf t)) && okT P f e
    | _ => false
theorem runT_le {α : Type} {P : Program} {off : α → Nat} {ty : α → TypeId} : ∀ {l : List α} {o m : Nat}, runT P off ty o l = some m → o ≤ m
  | [], o, m, h => by
    simp only [runT, Option.some.injEq] at h
    omega
  | a :: l, o, m, h => by
    unfold runT at h
    split at h
    · have := runT_le h
      omega
    · cases h
theorem flat_list {α : Type} {P : Program} {off : α → Nat} {ty : α → TypeId} {cs : List Value} {F : α → Option (DataW Unit × List MemPlace)} : ∀ {l : List α} {xs : List (DataW Unit × List MemPlace)} {o m : Nat},
    (∀ a ∈ l, ∀ x, F a = some x → (cs.drop (off a)).take (P.cellsOf (ty a)) = flatV x.1) → l.mapM F = some xs → runT P off ty o l = some m →
    (cs.drop o).take (m - o) = flatVs (xs.map (·.1))
  | [], xs, o, m, _, hx, hr => by
    simp only [List.mapM_nil, Option.pure_def, Option.some.injEq] at hx
    simp only [runT, Option.some.injEq] at hr
    subst hx
    subst hr
    simp [flatVs]
  | a :: l, xs, o, m, hF, hx, hr => by
    simp only [List.mapM_cons, Option.bind_eq_bind, Option.bind_eq_some_iff, Option.pure_def, Option.some.injEq] at hx
    obtain ⟨b, hb, r', hr', rfl⟩ := hx
    unfold runT at hr
    split at hr
    · rename_i ho
      have ho := of_decide_eq_true ho
      have h1 := hF a (by simp) b hb
      have h2 := flat_list (fun a' ha' => hF a' (by simp [ha'])) hr' hr
      have hle := runT_le hr
      simp only [List.map_cons, flatVs]
      rw [← h1, ← h2, ho, show m - o = P.cellsOf (ty a) + (m - (o + P.cellsOf (ty a))) by omega, List.take_add, List.drop_drop]
    · cases hr
theorem flat_of_trod {P : Program} {w : World} {base : Nat} {sp : Nat → Bool} {held : Bool} : ∀ (fuel f : Nat) {t : TypeId} {cs : List Value} {x : DataW Unit × List MemPlace}, okT P f t = true → DataW.trod (fun _ => ()) P w base sp held fuel t cs = some x → cs = flatV x.1
  | 0, f, t, cs, x, _, h => by simp [DataW.trod] at h
  | fuel + 1, 0, t, cs, x, hok, h => by cases hok
  | fuel + 1, f + 1, t, cs, x, hok, h => by
    have ih := fun {t : TypeId} {cs : List Value} {x : DataW Unit × List MemPlace} => flat_of_trod (P := P) (w := w) (base := base) (sp := sp) (held := held) fuel f (t := t) (cs := cs) (x := x)
    unfold okT at hok
    split at hok
    · rename_i hu
      obtain ⟨b, rfl, rfl⟩ := DataW.trod_bool hu h
      rfl
    · rename_i k hu
      obtain ⟨b, rfl, rfl, _⟩ := DataW.trod_int hu h
      rfl
    · rename_i k hu
      unfold DataW.trod at h
      rw [hu] at h
      split at h <;> simp_all [flatV, litV]
      obtain ⟨_, rfl⟩ := h
      rfl
    · rename_i fs hu
      simp only [Bool.and_eq_true, decide_eq_true_eq, List.all_eq_true] at hok
      unfold DataW.trod at h
      simp only [hu] at h
      split at h
      · rename_i hl
        obtain ⟨xs, hm, hx⟩ := Option.map_eq_some_iff.1 h
        subst hx
        have := flat_list (cs := cs) (fun a ha x hx => ih (hok.2 a ha) hx) hm hok.1
        simp only [List.drop_zero, Nat.sub_zero] at this
        rw [← hl, List.take_length] at this
        simpa [flatV] using this
      · cases h
    · rename_i n e hu
      simp only [Bool.and_eq_true, decide_eq_true_eq] at hok
      unfold DataW.trod at h
      simp only [hu] at h
      split at h
      · rename_i hl
        obtain ⟨xs, hm, hx⟩ := Option.map_eq_some_iff.1 h
        subst hx
        have := flat_list (cs := cs) (fun a ha x hx => ih hok.2 hx) hm hok.1
        simp only [List.drop_zero, Nat.sub_zero] at this
        rw [← hl, List.take_length] at this
        simpa [flatV] using this
      · cases h
    · cases hok
theorem range_of_reads {P : Program} {W : World} {name : String} {g : Nat} {t : TypeId} {d : DataW Unit} (f : Nat) (hg : P.globalNamed name = some g) (hty : (P.globals[g]?).map (·.type) = some t) (hok : okT P f t = true) (h : Lib.VarReads P W name d) :
    W.rangeAt g 0 (flatV d) := by
  obtain ⟨g', t', cs, fuel, p, hg', ht', hvar, hd⟩ := h
  obtain rfl := Option.some.inj (hg.symm.trans hg')
  obtain rfl := Option.some.inj (hty.symm.trans ht')
  have := flat_of_trod fuel f hok hd
  simp only at this
  rw [← this]
  intro j v hv
  have := World.var?_cell hg hvar j
  rw [Nat.zero_add, this]
  simpa using hv
end Go.Proofs.YtjcmbnpabkhcfaaGreatDoor
