/- The copy of a text (stringslite.Clone, function 53) gives the text back: the shelf's contract at this dump. -/
import Derived.Shelf.Strconv.Clone
import Derived.Test.YtjcmbnpabkhcfaaGreatDoorRows
namespace Go.Proofs.YtjcmbnpabkhcfaaGreatDoor
open Go.Shelf Go.RowKit
set_option linter.unusedVariables false
set_option linter.unusedSimpArgs false
def cloRen : Go.Shelf.Ren := ⟨fun | 316 => 53 | n => n, fun | 5 => 5 | 9 => 9 | 3 => 3 | 4 => 4 | 37 => 68 | 0 => 0 | 127 => 129 | n => n, fun n => n⟩
theorem cloLays : Go.Proofs.Lays.n316 Tryz.prog cloRen := {
  mixed := by kernel_rfl
  f316 := Tryz.func53.trans (congrArg some (by kernel_rfl))
  t0 := Tryz.underlying0
  a0 := Tryz.isAgg0
  z0 := Tryz.sizeOf0
  v0 := Tryz.zeroValue0
  t3 := Tryz.underlying3
  a3 := Tryz.isAgg3
  z3 := Tryz.sizeOf3
  v3 := Tryz.zeroValue3
  t4 := Tryz.underlying4
  a4 := Tryz.isAgg4
  z4 := Tryz.sizeOf4
  v4 := Tryz.zeroValue4
  t9 := Tryz.underlying9
  a9 := Tryz.isAgg9
  z9 := Tryz.sizeOf9
  v9 := Tryz.zeroValue9
  t37 := Tryz.underlying68
  a37 := Tryz.isAgg68
  z37 := Tryz.sizeOf68
  v37 := Tryz.zeroValue68
  t127 := Tryz.underlying129
  a127 := Tryz.isAgg129
  z127 := Tryz.sizeOf129
  v127 := Tryz.zeroValue129 }
theorem cloLaysM : Go.Proofs.LaysM.n316 Tryz.prog cloRen := { cloLays with
  t5 := Tryz.underlying5
  a5 := Tryz.isAgg5
  z5 := Tryz.sizeOf5
  v5 := Tryz.zeroValue5
  i0 := by kernel_rfl
  i3 := by kernel_rfl
  i4 := by kernel_rfl
  i5 := by kernel_rfl
  i9 := by kernel_rfl
  i37 := by kernel_rfl
  i127 := by kernel_rfl }
theorem clone_calls (s : ByteArray) (w : World) (h : s.size ≤ 1000) : Calls Tryz.prog 53 #[.string s] w fun e w' => e = .returned (.string s) ∧ Below w.heap.size w w' :=
  Any.stringslite_Clone cloLaysM s w (by omega)
end Go.Proofs.YtjcmbnpabkhcfaaGreatDoor
