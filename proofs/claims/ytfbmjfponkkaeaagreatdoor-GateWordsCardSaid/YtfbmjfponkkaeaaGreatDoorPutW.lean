import Derived.Test.YtfbmjfponkkaeaaGreatDoorAsmN
import Derived.Test.YtfbmjfponkkaeaaGreatDoorPutA
import Derived.Test.YtfbmjfponkkaeaaGreatDoorPutB
namespace Go.Proofs.YtfbmjfponkkaeaaGreatDoor.Num
open Go.RowKit Go.Proofs.YtfbmjfponkkaeaaGreatDoorW.PrintWords Go.Proofs.YtfbmjfponkkaeaaGreatDoor.Pr Go.Maps Go.Proofs.YtfbmjfponkkaeaaGreatDoor.Fam
set_option linter.unusedVariables false
set_option linter.unusedSimpArgs false

noncomputable def putWith (b1 b2 b3 : Bool) (p g : Nat) (wd : Int) (x : S63) : Option Int :=
  match instr_reg.f b1 x.f1 7, instr_reg.f b2 x.f2 15, instr_reg.f b3 x.f3 20, instr_special.f x.f0 x.f1 x.f2 x.f3 x.f4 with
  | some (a, true), some (b, true), some (c, true), some true => if reck g (reck p (x.f4 % 4294967296)) = x.f4 then some (Go.bits .or .u32 (Go.bits .or .u32 (Go.bits .or .u32 (Go.bits .or .u32 wd a) b) c) (reck p (x.f4 % 4294967296))) else none
  | _, _, _, _ => none
theorem putWith_open {b1 b2 b3 : Bool} {p g : Nat} {wd : Int} {x : S63} {v : Int} (h : putWith b1 b2 b3 p g wd x = some v) : ∃ a b c, instr_reg.f b1 x.f1 7 = some (a, true) ∧ instr_reg.f b2 x.f2 15 = some (b, true) ∧ instr_reg.f b3 x.f3 20 = some (c, true) ∧ instr_special.f x.f0 x.f1 x.f2 x.f3 x.f4 = some true ∧ reck g (reck p (x.f4 % 4294967296)) = x.f4 ∧
    Go.bits .or .u32 (Go.bits .or .u32 (Go.bits .or .u32 (Go.bits .or .u32 wd a) b) c) (reck p (x.f4 % 4294967296)) = v := by
  unfold putWith at h
  split at h
  · rename_i a b c h1 h2 h3 h4
    split at h
    · rename_i hr
      exact ⟨a, b, c, h1, h2, h3, h4, hr, Option.some.inj h⟩
    · cases h
  · cases h
/-- instr.Put, as far as the gate's lines ask. -/
noncomputable def putPure (x : S63) : Option Int :=
  if 0 ≤ x.f0 ∧ x.f0 ≤ 255 then match ofIn x.f0 theFams with
  | none => none
  | some (f, j) => if j < f.words.length then
    if f.form = 153 then putWith true false false 187 188 (f.words.getD j 0) x else
    if f.form = 154 then putWith true true false 190 191 (f.words.getD j 0) x else
    if f.form = 155 then putWith false true true 192 193 (f.words.getD j 0) x else
    if f.form = 157 then putWith false true true 194 195 (f.words.getD j 0) x else
    if f.form = 158 then putWith true true false 196 197 (f.words.getD j 0) x else
    if f.form = 160 then putWith true true true 198 199 (f.words.getD j 0) x else
    if f.form = 162 then putWith true true false 198 199 (f.words.getD j 0) x else
    if f.form = 164 then putWith false false false 198 199 (f.words.getD j 0) x else
    none else none else none
theorem put_calls (x : S63) (v : Int) (h : putPure x = some v) (w : World) : Calls Tryz.prog 139 #[.agg #[.int .u8 x.f0, .int .u8 x.f1, .int .u8 x.f2, .int .u8 x.f3, .int .i32 x.f4]] w fun e w' => e = .returned (.tuple #[.int .u32 v, .int .i64 0]) ∧ Below w.heap.size w w' := by
  unfold putPure at h
  split at h
  case isFalse => cases h
  rename_i hb
  split at h
  · cases h
  rename_i f j hf
  split at h
  case isFalse => cases h
  rename_i hj
  split at h
  · rename_i hform
    obtain ⟨a, b, c, h1, h2, h3, h4, h5, rfl⟩ := putWith_open h
    exact put_153 x.f0 x.f1 x.f2 x.f3 x.f4 _ a b c _ f j w hf hform hb.1 hb.2 hj rfl h1 h2 h3 h4 rfl h5
  split at h
  · rename_i hform
    obtain ⟨a, b, c, h1, h2, h3, h4, h5, rfl⟩ := putWith_open h
    exact put_154 x.f0 x.f1 x.f2 x.f3 x.f4 _ a b c _ f j w hf hform hb.1 hb.2 hj rfl h1 h2 h3 h4 rfl h5
  split at h
  · rename_i hform
    obtain ⟨a, b, c, h1, h2, h3, h4, h5, rfl⟩ := putWith_open h
    exact put_155 x.f0 x.f1 x.f2 x.f3 x.f4 _ a b c _ f j w hf hform hb.1 hb.2 hj rfl h1 h2 h3 h4 rfl h5
  split at h
  · rename_i hform
    obtain ⟨a, b, c, h1, h2, h3, h4, h5, rfl⟩ := putWith_open h
    exact put_157 x.f0 x.f1 x.f2 x.f3 x.f4 _ a b c _ f j w hf hform hb.1 hb.2 hj rfl h1 h2 h3 h4 rfl h5
  split at h
  · rename_i hform
    obtain ⟨a, b, c, h1, h2, h3, h4, h5, rfl⟩ := putWith_open h
    exact put_158 x.f0 x.f1 x.f2 x.f3 x.f4 _ a b c _ f j w hf hform hb.1 hb.2 hj rfl h1 h2 h3 h4 rfl h5
  split at h
  · rename_i hform
    obtain ⟨a, b, c, h1, h2, h3, h4, h5, rfl⟩ := putWith_open h
    exact put_160 x.f0 x.f1 x.f2 x.f3 x.f4 _ a b c _ f j w hf hform hb.1 hb.2 hj rfl h1 h2 h3 h4 rfl h5
  split at h
  · rename_i hform
    obtain ⟨a, b, c, h1, h2, h3, h4, h5, rfl⟩ := putWith_open h
    exact put_162 x.f0 x.f1 x.f2 x.f3 x.f4 _ a b c _ f j w hf hform hb.1 hb.2 hj rfl h1 h2 h3 h4 rfl h5
  split at h
  · rename_i hform
    obtain ⟨a, b, c, h1, h2, h3, h4, h5, rfl⟩ := putWith_open h
    exact put_164 x.f0 x.f1 x.f2 x.f3 x.f4 _ a b c _ f j w hf hform hb.1 hb.2 hj rfl h1 h2 h3 h4 rfl h5
  cases h

/-- The gate's instructions, their places reckoned. -/
def theXs : List S63 := [⟨61, 4, 1, 0, 0⟩, ⟨5, 0, 4, 0, 648⟩, ⟨58, 4, 1, 0, 0⟩, ⟨5, 0, 4, 0, 640⟩, ⟨21, 5, 0, 0, 4⟩, ⟨10, 0, 4, 5, 632⟩, ⟨61, 4, 6, 0, 0⟩, ⟨5, 0, 4, 0, 612⟩, ⟨58, 4, 6, 0, 0⟩, ⟨21, 5, 0, 0, 4⟩, ⟨6, 0, 4, 5, 600⟩, ⟨52, 6, 6, 0, 0⟩, ⟨61, 4, 2, 0, 0⟩, ⟨5, 0, 4, 0, 588⟩, ⟨58, 4, 2, 0, 0⟩, ⟨6, 0, 4, 0, 580⟩, ⟨57, 4, 2, 0, 0⟩, ⟨21, 5, 0, 0, 39⟩, ⟨6, 0, 4, 5, 568⟩, ⟨59, 4, 2, 0, 0⟩, ⟨64, 5, 2, 0, 0⟩, ⟨9, 0, 5, 4, 556⟩, ⟨60, 7, 2, 0, 0⟩, ⟨30, 7, 7, 4, 0⟩, ⟨9, 0, 7, 5, 544⟩, ⟨38, 7, 4, 5, 0⟩, ⟨26, 7, 7, 0, 7⟩, ⟨6, 0, 7, 0, 532⟩, ⟨31, 8, 5, 4, 0⟩, ⟨13, 9, 6, 0, 16⟩, ⟨28, 7, 9, 0, 8⟩, ⟨9, 0, 8, 7, 516⟩, ⟨66, 7, 0, 0, 29⟩, ⟨59, 4, 7, 0, 0⟩, ⟨60, 5, 7, 0, 0⟩, ⟨30, 4, 4, 5, 0⟩, ⟨64, 5, 7, 0, 0⟩, ⟨21, 5, 5, 0, 32⟩, ⟨9, 0, 4, 5, 488⟩, ⟨20, 0, 7, 2, 0⟩, ⟨20, 0, 7, 3, 8⟩, ⟨20, 0, 7, 1, 16⟩, ⟨48, 7, 7, 0, 32⟩, ⟨66, 0, 7, 0, 29⟩, ⟨59, 4, 2, 0, 0⟩, ⟨64, 5, 2, 0, 0⟩, ⟨54, 2, 2, 4, 0⟩, ⟨50, 2, 2, 8, 0⟩, ⟨62, 7, 2, 0, 0⟩, ⟨5, 0, 8, 0, 20⟩, ⟨20, 0, 7, 0, 0⟩, ⟨48, 7, 7, 0, 8⟩, ⟨21, 8, 8, 0, -8⟩, ⟨3, 0, 0, 0, -16⟩, ⟨54, 2, 2, 5, 0⟩, ⟨14, 1, 6, 0, 0⟩, ⟨14, 3, 6, 0, 8⟩, ⟨26, 9, 9, 0, 255⟩, ⟨21, 4, 0, 0, 0⟩, ⟨9, 0, 4, 9, 8⟩, ⟨62, 10, 0, 0, 0⟩, ⟨58, 4, 10, 0, 0⟩, ⟨5, 0, 4, 0, 8⟩, ⟨63, 10, 10, 0, 0⟩, ⟨21, 4, 0, 0, 19⟩, ⟨53, 10, 10, 4, 0⟩, ⟨21, 4, 0, 0, 1⟩, ⟨9, 0, 4, 9, 8⟩, ⟨62, 11, 0, 0, 0⟩, ⟨58, 4, 11, 0, 0⟩, ⟨5, 0, 4, 0, 8⟩, ⟨63, 11, 11, 0, 0⟩, ⟨21, 4, 0, 0, 19⟩, ⟨53, 11, 11, 4, 0⟩, ⟨21, 4, 0, 0, 2⟩, ⟨9, 0, 4, 9, 8⟩, ⟨62, 12, 0, 0, 0⟩, ⟨58, 4, 12, 0, 0⟩, ⟨5, 0, 4, 0, 8⟩, ⟨63, 12, 12, 0, 0⟩, ⟨21, 4, 0, 0, 19⟩, ⟨53, 12, 12, 4, 0⟩, ⟨21, 4, 0, 0, 3⟩, ⟨9, 0, 4, 9, 8⟩, ⟨62, 13, 0, 0, 0⟩, ⟨58, 4, 13, 0, 0⟩, ⟨5, 0, 4, 0, 8⟩, ⟨63, 13, 13, 0, 0⟩, ⟨21, 4, 0, 0, 19⟩, ⟨53, 13, 13, 4, 0⟩, ⟨21, 4, 0, 0, 4⟩, ⟨9, 0, 4, 9, 8⟩, ⟨62, 14, 0, 0, 0⟩, ⟨58, 4, 14, 0, 0⟩, ⟨5, 0, 4, 0, 8⟩, ⟨63, 14, 14, 0, 0⟩, ⟨21, 4, 0, 0, 19⟩, ⟨53, 14, 14, 4, 0⟩, ⟨21, 4, 0, 0, 5⟩, ⟨9, 0, 4, 9, 8⟩, ⟨62, 15, 0, 0, 0⟩, ⟨58, 4, 15, 0, 0⟩, ⟨5, 0, 4, 0, 8⟩, ⟨63, 15, 15, 0, 0⟩, ⟨21, 4, 0, 0, 19⟩, ⟨53, 15, 15, 4, 0⟩, ⟨62, 4, 0, 0, 0⟩, ⟨62, 5, 0, 0, 0⟩, ⟨62, 6, 0, 0, 0⟩, ⟨62, 7, 0, 0, 0⟩, ⟨62, 8, 0, 0, 0⟩, ⟨62, 9, 0, 0, 0⟩, ⟨4, 1, 1, 0, 0⟩, ⟨66, 7, 0, 0, 29⟩, ⟨59, 4, 7, 0, 0⟩, ⟨64, 5, 7, 0, 0⟩, ⟨5, 0, 4, 5, 224⟩, ⟨48, 7, 7, 0, -32⟩, ⟨14, 2, 7, 0, 0⟩, ⟨14, 3, 7, 0, 8⟩, ⟨14, 1, 7, 0, 16⟩, ⟨66, 0, 7, 0, 29⟩, ⟨59, 4, 2, 0, 0⟩, ⟨64, 5, 2, 0, 0⟩, ⟨31, 8, 5, 4, 0⟩, ⟨54, 7, 2, 4, 0⟩, ⟨5, 0, 8, 0, 20⟩, ⟨20, 0, 7, 0, 0⟩, ⟨48, 7, 7, 0, 8⟩, ⟨21, 8, 8, 0, -8⟩, ⟨3, 0, 0, 0, -16⟩, ⟨58, 4, 10, 0, 0⟩, ⟨5, 0, 4, 0, 8⟩, ⟨63, 10, 10, 0, 0⟩, ⟨57, 4, 10, 0, 0⟩, ⟨26, 4, 4, 0, 16⟩, ⟨6, 0, 4, 0, 8⟩, ⟨63, 10, 10, 0, 0⟩, ⟨21, 4, 0, 0, 19⟩, ⟨53, 10, 10, 4, 0⟩, ⟨58, 4, 11, 0, 0⟩, ⟨5, 0, 4, 0, 8⟩, ⟨63, 11, 11, 0, 0⟩, ⟨57, 4, 11, 0, 0⟩, ⟨26, 4, 4, 0, 16⟩, ⟨6, 0, 4, 0, 8⟩, ⟨63, 11, 11, 0, 0⟩, ⟨21, 4, 0, 0, 19⟩, ⟨53, 11, 11, 4, 0⟩, ⟨62, 4, 0, 0, 0⟩, ⟨62, 5, 0, 0, 0⟩, ⟨62, 6, 0, 0, 0⟩, ⟨62, 7, 0, 0, 0⟩, ⟨62, 8, 0, 0, 0⟩, ⟨62, 9, 0, 0, 0⟩, ⟨62, 12, 0, 0, 0⟩, ⟨62, 13, 0, 0, 0⟩, ⟨62, 14, 0, 0, 0⟩, ⟨62, 15, 0, 0, 0⟩, ⟨4, 0, 1, 0, 0⟩, ⟨21, 10, 0, 0, -2⟩, ⟨62, 11, 0, 0, 0⟩, ⟨3, 0, 0, 0, -52⟩, ⟨21, 10, 0, 0, -1⟩, ⟨62, 11, 0, 0, 0⟩, ⟨3, 0, 0, 0, -208⟩, ⟨66, 4, 4, 0, 30⟩, ⟨66, 4, 0, 0, 27⟩, ⟨7, 0, 4, 0, 8⟩, ⟨3, 0, 0, 0, -24⟩, ⟨66, 4, 0, 0, 30⟩, ⟨68, 0, 0, 0, 0⟩, ⟨3, 0, 0, 0, 0⟩]
/-- The gate's words. -/
def theWords : List Int := [4265640539, 671220835, 4262494811, 671219811, 4194963, 642940003, 4265804379, 637665891, 4262658651, 4194963, 609360995, 402850651, 4265673307, 604112483, 4262527579, 604115555, 4261479003, 40895123, 575806563, 4263576155, 4277207771, 574809699, 4264625115, 4424627, 575922275, 5399475, 7598995, 537107043, 1078101043, 16983171, 8704915, 544498275, 63964123, 4263739995, 4264788699, 5374515, 4277371611, 33718931, 508716131, 2338851, 3388451, 1292323, 33788891, 64192603, 4263576155, 4277207771, 541131099, 276889947, 4271965147, 264803, 241699, 8623067, 4286841875, 4280283247, 542179675, 209027, 8597891, 267711635, 531, 9593955, 4271899995, 4262789723, 132195, 4273276251, 19923475, 440730971, 1049107, 9593955, 4271900123, 4262822491, 132195, 4273309147, 19923475, 440763867, 2097683, 9593955, 4271900251, 4262855259, 132195, 4273342043, 19923475, 440796763, 3146259, 9593955, 4271900379, 4262888027, 132195, 4273374939, 19923475, 440829659, 4194835, 9593955, 4271900507, 4262920795, 132195, 4273407835, 19923475, 440862555, 5243411, 9593955, 4271900635, 4262953563, 132195, 4273440731, 19923475, 440895451, 4271899227, 4271899355, 4271899483, 4271899611, 4271899739, 4271899867, 32999, 63964123, 4263739995, 4277371611, 240255075, 4261647323, 241923, 8630659, 17019011, 64192603, 4263576155, 4277207771, 1078101043, 541131739, 264803, 241699, 8623067, 4286841875, 4280283247, 4262789723, 132195, 4273276251, 4261741147, 16937491, 136291, 4273276251, 19923475, 440730971, 4262822491, 132195, 4273309147, 4261773915, 16937491, 136291, 4273309147, 19923475, 440763867, 4271899227, 4271899355, 4271899483, 4271899611, 4271899739, 4271899867, 4271900251, 4271900379, 4271900507, 4271900635, 32871, 4292871443, 4271900123, 4242534511, 4293920019, 4271900123, 4078956655, 65143387, 61866587, 148579, 4271894639, 65012315, 807403635, 111]
set_option maxRecDepth 100000 in
theorem words_of : theXs.map putPure = theWords.map some := by kernel_rfl
end Go.Proofs.YtfbmjfponkkaeaaGreatDoor.Num
