/- The law's fixed part (lives, function 11), carried out in the kernel. -/
import Derived.Test.YtjcmbnpabkhcfaaGreatDoorEngN
import Derived.Test.YtjcmbnpabkhcfaaGreatDoorRows
namespace Go.Proofs.YtjcmbnpabkhcfaaGreatDoor
open Go.RowKit Eng
set_option linter.unusedVariables false
set_option linter.unusedSimpArgs false
def litV : Lit → Value
  | .bool b => .bool b
  | .int k n => .int k n
  | .float k b => .float k b
  | .string bs => .string ⟨bs.toArray⟩
  | .nil => .pointer none
mutual
def flatV : DataW Unit → List Value
  | .lit l => [litV l]
  | .agg l => flatVs l
  | _ => [undef]
def flatVs : List (DataW Unit) → List Value
  | [] => []
  | d :: l => flatV d ++ flatVs l
end
def tabs : List (Nat × List Value) := [(3, flatV Rows.laid_internal_strconv_optimize), (6, flatV Rows.laid_internal_strconv_float64info), (7, flatV Rows.laid_internal_strconv_uint64pow10), (11, flatV Rows.laid_internal_strconv_pow10Tab), (13, flatV Rows.laid_math_bits_deBruijn32tab), (14, flatV Rows.laid_math_bits_deBruijn64tab)]
def ents : List (Nat × Ent) := (2, .row [.ifc 130 (.ptr 50 0)] true) :: tabs.map fun p => (p.1, .row (p.2.map .sc) true)
def mkTr (l : List (Nat × Ent)) : Tr Ent := l.foldr (fun p t => match t.set depth p.1 (some p.2) with | some t' => t' | none => t) .nil
def h0 : H := ⟨mkTr ents, 100, 100⟩
def extC : CallE := fun f args h => match f, args with
  | 53, [.sc (.string s)] => match decide (s.size ≤ 1000) with
    | true => some (.sc (.string s), h)
    | false => none
  | _, _ => none
set_option maxRecDepth 100000 in
theorem lives_run : (match runE Tryz.prog 15 1000 extC 100 11 [] h0 with | some (.sc (.bool true), h) => decide (h.low = 100) | _ => false) = true := by kernel_rfl
end Go.Proofs.YtjcmbnpabkhcfaaGreatDoor
