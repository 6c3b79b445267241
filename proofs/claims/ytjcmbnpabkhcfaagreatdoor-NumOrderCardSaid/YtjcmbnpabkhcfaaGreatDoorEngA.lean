import Derived.Calls
import Derived.Orders
import Derived.Tactics
import Derived.KernelRfl
import Derived.LoopN
import Derived.Below
import Derived.Deep.MidRow
import Derived.Deep.AppendSrc
import Derived.StillTail
namespace Go.Proofs.YtjcmbnpabkhcfaaGreatDoor.Eng
open Go Go.Proofs
set_option linter.unusedVariables false
set_option linter.unusedSimpArgs false

/-! ### Tries -/

inductive Tr (α : Type) where
  | nil
  | node (v : Option α) (l r : Tr α)
  deriving Inhabited

def Tr.get {α : Type} : Tr α → Nat → Option α
  | .nil, _ => none
  | .node v l r, n => match n with
    | 0 => v
    | m + 1 => match m % 2 with
      | 0 => l.get (m / 2)
      | _ => r.get (m / 2)

def Tr.val {α : Type} : Tr α → Option α
  | .nil => none
  | .node v _ _ => v
def Tr.left {α : Type} : Tr α → Tr α
  | .nil => .nil
  | .node _ l _ => l
def Tr.right {α : Type} : Tr α → Tr α
  | .nil => .nil
  | .node _ _ r => r
def Tr.set {α : Type} : Nat → Tr α → Nat → Option α → Option (Tr α)
  | 0, _, _, _ => none
  | f + 1, t, n, x => match n with
    | 0 => some (.node x t.left t.right)
    | m + 1 => match m % 2 with
      | 0 => match Tr.set f t.left (m / 2) x with
        | some l => some (.node t.val l t.right)
        | none => none
      | _ => match Tr.set f t.right (m / 2) x with
        | some r => some (.node t.val t.left r)
        | none => none

theorem Tr.get_nil {α : Type} (n : Nat) : (Tr.nil : Tr α).get n = none := by cases n <;> rfl
theorem Tr.get_zero {α : Type} (t : Tr α) : t.get 0 = t.val := by cases t <;> rfl
theorem Tr.get_l {α : Type} (t : Tr α) (m : Nat) (h : m % 2 = 0) : t.get (m + 1) = t.left.get (m / 2) := by
  cases t with
  | nil => simp only [Tr.left, Tr.get_nil]
  | node v l r => simp only [Tr.get, h, Tr.left]
theorem Tr.get_r {α : Type} (t : Tr α) (m : Nat) (h : m % 2 = 1) : t.get (m + 1) = t.right.get (m / 2) := by
  cases t with
  | nil => simp only [Tr.right, Tr.get_nil]
  | node v l r => simp only [Tr.get, h, Tr.right]

theorem Tr.set_get {α : Type} : ∀ (f : Nat) (t : Tr α) (n : Nat) (x : Option α) (t' : Tr α), Tr.set f t n x = some t' → t'.get n = x ∧ ∀ m, m ≠ n → t'.get m = t.get m
  | 0, _, _, _, _, h => by cases h
  | f + 1, t, n, x, t', h => by
    cases n with
    | zero =>
      simp only [Tr.set, Option.some.injEq] at h
      subst h
      refine ⟨rfl, fun m hm => ?_⟩
      cases m with
      | zero => exact (hm rfl).elim
      | succ m =>
        rcases Nat.mod_two_eq_zero_or_one m with hb | hb
        · rw [Tr.get_l _ _ hb, Tr.get_l _ _ hb]; rfl
        · rw [Tr.get_r _ _ hb, Tr.get_r _ _ hb]; rfl
    | succ a =>
      rcases Nat.mod_two_eq_zero_or_one a with ha | ha
      · simp only [Tr.set, ha] at h
        split at h
        · rename_i l' hl
          obtain ⟨h1, h2⟩ := Tr.set_get f t.left (a / 2) x l' hl
          simp only [Option.some.injEq] at h
          subst h
          refine ⟨by rw [Tr.get_l _ _ ha]; exact h1, fun m hm => ?_⟩
          cases m with
          | zero => rw [Tr.get_zero, Tr.get_zero]; rfl
          | succ b =>
            rcases Nat.mod_two_eq_zero_or_one b with hb | hb
            · rw [Tr.get_l _ _ hb, Tr.get_l _ _ hb]
              exact h2 _ (by omega)
            · rw [Tr.get_r _ _ hb, Tr.get_r _ _ hb]; rfl
        · cases h
      · simp only [Tr.set, ha] at h
        split at h
        · rename_i r' hr
          obtain ⟨h1, h2⟩ := Tr.set_get f t.right (a / 2) x r' hr
          simp only [Option.some.injEq] at h
          subst h
          refine ⟨by rw [Tr.get_r _ _ ha]; exact h1, fun m hm => ?_⟩
          cases m with
          | zero => rw [Tr.get_zero, Tr.get_zero]; rfl
          | succ b =>
            rcases Nat.mod_two_eq_zero_or_one b with hb | hb
            · rw [Tr.get_l _ _ hb, Tr.get_l _ _ hb]; rfl
            · rw [Tr.get_r _ _ hb, Tr.get_r _ _ hb]
              exact h2 _ (by omega)
        · cases h

/-! ### Values -/

inductive EV where
  | sc (v : Value)
  | ptr (i o : Nat)
  | sl (i o n : Nat) (c : Option Nat) (z : Nat)
  | mp (i : Nat)
  | fn (f : Fn) (first captured : List EV)
  | ifc (t : TypeId) (v : EV)
  | agg (l : List EV)
  | tup (l : List EV)
  deriving Inhabited

/-- Where something lies: its block, from which cell on, how many cells there are. -/
structure Pl where
  b : Nat
  k : Nat
  m : Nat
abbrev Phi := Nat → Option Pl

mutual
inductive VR (φ : Phi) : EV → Value → Prop where
  | sc {v} : VR φ (.sc v) v
  | ptr {i o p} : φ i = some p → VR φ (.ptr i o) (.pointer (some ⟨p.b, p.k + o, none⟩))
  | sl {i o n c z p cap} : φ i = some p → (∀ d, c = some d → d = cap) → n ≤ cap → o + cap * z ≤ p.m → VR φ (.sl i o n c z) (.slice (some ⟨p.b, p.k + o, none⟩) n cap)
  | mp {i p} : φ i = some p → VR φ (.mp i) (.map (some p.b))
  | fn {f a b x y} : VRs φ a x → VRs φ b y → VR φ (.fn f a b) (.func f ⟨x⟩ ⟨y⟩)
  | ifc {t e v} : VR φ e v → VR φ (.ifc t e) (.iface t v)
  | agg {l x} : VRs φ l x → VR φ (.agg l) (.agg ⟨x⟩)
  | tup {l x} : VRs φ l x → VR φ (.tup l) (.tuple ⟨x⟩)
inductive VRs (φ : Phi) : List EV → List Value → Prop where
  | nil : VRs φ [] []
  | cons {e v l x} : VR φ e v → VRs φ l x → VRs φ (e :: l) (v :: x)
end

def Phi.le (φ φ' : Phi) : Prop := ∀ i p, φ i = some p → φ' i = some p

mutual
theorem VR.mono {φ φ' : Phi} (hl : φ.le φ') : ∀ {e v}, VR φ e v → VR φ' e v
  | _, _, .sc => .sc
  | _, _, .ptr h => .ptr (hl _ _ h)
  | _, _, .sl h a b c => .sl (hl _ _ h) a b c
  | _, _, .mp h => .mp (hl _ _ h)
  | _, _, .fn a b => .fn (VRs.mono hl a) (VRs.mono hl b)
  | _, _, .ifc a => .ifc (VR.mono hl a)
  | _, _, .agg a => .agg (VRs.mono hl a)
  | _, _, .tup a => .tup (VRs.mono hl a)
theorem VRs.mono {φ φ' : Phi} (hl : φ.le φ') : ∀ {l x}, VRs φ l x → VRs φ' l x
  | _, _, .nil => .nil
  | _, _, .cons a b => .cons (VR.mono hl a) (VRs.mono hl b)
end

theorem VRs.length {φ : Phi} : ∀ {l x}, VRs φ l x → l.length = x.length
  | _, _, .nil => rfl
  | _, _, .cons _ b => congrArg (· + 1) b.length
theorem VRs.get {φ : Phi} : ∀ {l x}, VRs φ l x → ∀ {j : Nat} {e : EV}, l[j]? = some e → ∃ v, x[j]? = some v ∧ VR φ e v
  | _, _, .nil, _, _, h => by cases h
  | _, _, .cons a _, 0, _, h => by
    simp only [List.getElem?_cons_zero, Option.some.injEq] at h
    subst h
    exact ⟨_, rfl, a⟩
  | _, _, .cons _ b, j + 1, _, h => by
    simp only [List.getElem?_cons_succ] at h ⊢
    exact b.get h
theorem VRs.append {φ : Phi} : ∀ {l x l' x'}, VRs φ l x → VRs φ l' x' → VRs φ (l ++ l') (x ++ x')
  | _, _, _, _, .nil, h => h
  | _, _, _, _, .cons a b, h => .cons a (b.append h)
theorem VRs.take {φ : Phi} : ∀ {l x}, VRs φ l x → ∀ n, VRs φ (l.take n) (x.take n)
  | _, _, .nil, n => by simp only [List.take_nil]; exact .nil
  | _, _, .cons _ _, 0 => .nil
  | _, _, .cons a b, n + 1 => .cons a (b.take n)
theorem VRs.drop {φ : Phi} : ∀ {l x}, VRs φ l x → ∀ n, VRs φ (l.drop n) (x.drop n)
  | _, _, .nil, n => by simp only [List.drop_nil]; exact .nil
  | _, _, .cons a b, 0 => .cons a b
  | _, _, .cons _ b, n + 1 => b.drop n
theorem VRs.scs {φ : Phi} : ∀ l : List Value, VRs φ (l.map .sc) l
  | [] => .nil
  | _ :: l => .cons .sc (VRs.scs l)

mutual
def EV.val? : EV → Option Value
  | .sc v => some v
  | .agg l => match vals? l with | some vs => some (.agg ⟨vs⟩) | none => none
  | .tup l => match vals? l with | some vs => some (.tuple ⟨vs⟩) | none => none
  | .ifc t v => match v.val? with | some x => some (.iface t x) | none => none
  | .fn f a b => match vals? a, vals? b with | some x, some y => some (.func f ⟨x⟩ ⟨y⟩) | _, _ => none
  | _ => none
def vals? : List EV → Option (List Value)
  | [] => some []
  | x :: l => match x.val?, vals? l with | some v, some vs => some (v :: vs) | _, _ => none
end

mutual
theorem VR.val {φ : Phi} : ∀ {e v u}, VR φ e v → e.val? = some u → v = u
  | _, _, _, .sc, h => Option.some.inj h
  | _, _, _, .ptr _, h => by cases h
  | _, _, _, .sl .., h => by cases h
  | _, _, _, .mp _, h => by cases h
  | _, _, _, .fn a b, h => by
    unfold EV.val? at h
    split at h
    · rename_i h1 h2
      rw [VRs.vals a h1, VRs.vals b h2]
      exact Option.some.inj h
    · cases h
  | _, _, _, .ifc a, h => by
    unfold EV.val? at h
    split at h
    · rename_i h1
      rw [VR.val a h1]
      exact Option.some.inj h
    · cases h
  | _, _, _, .agg a, h => by
    unfold EV.val? at h
    split at h
    · rename_i h1
      rw [VRs.vals a h1]
      exact Option.some.inj h
    · cases h
  | _, _, _, .tup a, h => by
    unfold EV.val? at h
    split at h
    · rename_i h1
      rw [VRs.vals a h1]
      exact Option.some.inj h
    · cases h
theorem VRs.vals {φ : Phi} : ∀ {l x u}, VRs φ l x → vals? l = some u → x = u
  | _, _, _, .nil, h => Option.some.inj h
  | _, _, _, .cons a b, h => by
    unfold vals? at h
    split at h
    · rename_i h1 h2
      rw [VR.val a h1, VRs.vals b h2]
      exact Option.some.inj h
    · cases h
end

/-- What a value of one variable is, cell by cell. -/
def EV.cells : EV → List EV
  | .agg l => l
  | .sc (.agg a) => a.toList.map .sc
  | v => [v]
theorem VR.cells {φ : Phi} {e : EV} {v : Value} (h : VR φ e v) : VRs φ e.cells v.cells.toList := by
  cases h with
  | agg a => exact a
  | sc =>
    cases v <;> first
      | exact VRs.scs _
      | exact .cons .sc .nil
  | ptr h => exact .cons (.ptr h) .nil
  | sl h a b c => exact .cons (.sl h a b c) .nil
  | mp h => exact .cons (.mp h) .nil
  | fn a b => exact .cons (.fn a b) .nil
  | ifc a => exact .cons (.ifc a) .nil
  | tup a => exact .cons (.tup a) .nil

def EV.one : EV → Bool
  | .sc v => v.oneCell'
  | .agg _ => false
  | .tup _ => false
  | _ => true
def ones : List EV → Bool
  | [] => true
  | x :: l => match x.one with
    | true => ones l
    | false => false
theorem VR.one {φ : Phi} {e : EV} {v : Value} (h : VR φ e v) (h1 : e.one = true) : v.oneCell' = true := by
  cases h <;> first
    | exact h1
    | cases h1
    | rfl
theorem VRs.ones {φ : Phi} : ∀ {l x}, VRs φ l x → Eng.ones l = true → ∀ v ∈ x, v.oneCell' = true
  | _, _, .nil, _, _, h => by cases h
  | _, _, .cons a b, ho, v, h => by
    unfold Eng.ones at ho
    split at ho
    · rename_i h1
      rcases List.mem_cons.1 h with rfl | h
      · exact a.one h1
      · exact b.ones ho v h
    · cases ho
end Go.Proofs.YtjcmbnpabkhcfaaGreatDoor.Eng
