/- strings.Repeat: the library's own contract, laid at this program. The laying's rows were printed by a tool of the kit for this seat. -/
import Derived.Test.YtiaongfgkmbaaaaTT
import Derived.Test.YtiaongfgkmbaaaaFwM
import Derived.Shelf.Strings.Repeat
namespace Go.Proofs.Ytiaongfgkmbaaaa
open Go.Rq Go
set_option linter.unusedVariables false
def Try.laysRep_ren : Go.Shelf.Ren := ⟨fun | 105 => 42 | 212 => 51 | 99 => 52 | 165 => 53 | 166 => 54 | 170 => 55 | 169 => 56 | 263 => 58 | 264 => 48 | 206 => 59 | 240 => 60 | 241 => 61 | 276 => 63 | 277 => 64 | n => n, fun | 9 => 9 | 3 => 3 | 4 => 4 | 20 => 20 | 0 => 0 | 46 => 66 | 109 => 68 | 5 => 5 | 72 => 73 | 76 => 77 | 51 => 81 | 146 => 82 | 53 => 22 | 148 => 59 | 70 => 71 | 37 => 25 | 75 => 76 | 127 => 84 | 164 => 85 | 80 => 80 | n => n, fun | n => n⟩
theorem Try.laysRep : Go.Proofs.Lays.n105 Try.prog Try.laysRep_ren where
  mixed := by kernel_rfl
  f99 := Try.func52.trans (congrArg some (by kernel_rfl))
  f105 := Try.func42.trans (congrArg some (by kernel_rfl))
  f165 := Try.func53.trans (congrArg some (by kernel_rfl))
  f166 := Try.func54.trans (congrArg some (by kernel_rfl))
  f169 := Try.func56.trans (congrArg some (by kernel_rfl))
  f170 := Try.func55.trans (congrArg some (by kernel_rfl))
  f206 := Try.func59.trans (congrArg some (by kernel_rfl))
  f212 := Try.func51.trans (congrArg some (by kernel_rfl))
  f240 := Try.func60.trans (congrArg some (by kernel_rfl))
  f241 := Try.func61.trans (congrArg some (by kernel_rfl))
  f263 := Try.func58.trans (congrArg some (by kernel_rfl))
  f264 := Try.func48.trans (congrArg some (by kernel_rfl))
  f276 := Try.func63.trans (congrArg some (by kernel_rfl))
  f277 := Try.func64.trans (congrArg some (by kernel_rfl))
  t0 := Try.underlying0
  a0 := Try.isAgg0
  z0 := Try.sizeOf0
  v0 := Try.zeroValue0
  t3 := Try.underlying3
  a3 := Try.isAgg3
  z3 := Try.sizeOf3
  v3 := Try.zeroValue3
  t4 := Try.underlying4
  a4 := Try.isAgg4
  z4 := Try.sizeOf4
  v4 := Try.zeroValue4
  t5 := Try.underlying5
  a5 := Try.isAgg5
  z5 := Try.sizeOf5
  v5 := Try.zeroValue5
  t9 := Try.underlying9
  a9 := Try.isAgg9
  z9 := Try.sizeOf9
  v9 := Try.zeroValue9
  t20 := Try.underlying20
  a20 := Try.isAgg20
  z20 := Try.sizeOf20
  v20 := Try.zeroValue20
  t37 := Try.underlying25
  a37 := Try.isAgg25
  z37 := Try.sizeOf25
  v37 := Try.zeroValue25
  t46 := Try.underlying66
  a46 := Try.isAgg66
  z46 := Try.sizeOf66
  v46 := Try.zeroValue66
  t51 := Try.underlying81
  a51 := Try.isAgg81
  z51 := Try.sizeOf81
  v51 := Try.zeroValue81
  t53 := Try.underlying22
  a53 := Try.isAgg22
  z53 := Try.sizeOf22
  v53 := Try.zeroValue22
  t70 := Try.underlying71
  a70 := Try.isAgg71
  z70 := Try.sizeOf71
  v70 := Try.zeroValue71
  t72 := Try.underlying73
  a72 := Try.isAgg73
  z72 := Try.sizeOf73
  v72 := Try.zeroValue73
  t75 := Try.underlying76
  a75 := Try.isAgg76
  z75 := Try.sizeOf76
  v75 := Try.zeroValue76
  t76 := Try.underlying77
  a76 := Try.isAgg77
  z76 := Try.sizeOf77
  v76 := Try.zeroValue77
  t109 := Try.underlying68
  a109 := Try.isAgg68
  z109 := Try.sizeOf68
  v109 := Try.zeroValue68
  t127 := Try.underlying84
  a127 := Try.isAgg84
  z127 := Try.sizeOf84
  v127 := Try.zeroValue84
  t146 := Try.underlying82
  a146 := Try.isAgg82
  z146 := Try.sizeOf82
  v146 := Try.zeroValue82
  t148 := Try.underlying59
  a148 := Try.isAgg59
  z148 := Try.sizeOf59
  v148 := Try.zeroValue59
  t164 := Try.underlying85
  a164 := Try.isAgg85
  z164 := Try.sizeOf85
  v164 := Try.zeroValue85
theorem Try.repExtra : Go.Proofs.Builder.Extra Try.prog Try.laysRep_ren where
  sizeBuilder := by kernel_rfl
  liesBuilder := by kernel_rfl
  t5 := Try.laysRep.t5
  a5 := Try.laysRep.a5
  z5 := Try.laysRep.z5
  v5 := Try.laysRep.v5
  infoByte := by kernel_rfl
  cellsByte := by kernel_rfl
  sizeByte := by kernel_rfl
  neB5 := by decide
theorem Try.repeat97 (w : World) : Calls Try.prog 42 #[.string (bytesF 1 fun _ => 49), .int .i64 97] w fun e w' => e = .returned (.string (bytesF 97 fun _ => 49)) ∧ Go.RowKit.Below w.heap.size w w' := by
  have h := Go.Proofs.Any.strings_Repeat Try.laysRep Try.repExtra (bytesF 1 fun _ => 49) 97 w (by decide) (by rw [size_bytesF]; decide)
  have e : (⟨(Go.Lib.repeatL (bytesF 1 fun _ => 49).data.toList 97).toArray⟩ : ByteArray) = bytesF 97 fun _ => 49 := by kernel_rfl
  rw [e] at h
  exact h
def cRep : List AV → Option (List Prop × AV)
  | [.v1 (.sc (.str n f)), .v1 (.sc (.it z))] => some ([bytesF n f = bytesF 1 fun _ => 49, z = 97], .v1 (.sc (.str 97 fun _ => 49)))
  | _ => none
theorem okRep : (CallC.pure cRep).Ok Try.prog 42 := by
  intro args pre v e hp h
  unfold cRep at e
  split at e
  rotate_left
  · cases e
  rename_i n f z
  cases e
  have h1 : bytesF n f = bytesF 1 fun _ => 49 := hp _ (by simp)
  have h2 : z = 97 := hp (z = 97) (by simp)
  intro ρ w hr _ o a next Q hnext
  rw [enter_run (c := bodyOf Try.f42) Try.func42 (by kernel_rfl) (by kernel_rfl), Oper.upon_enter]
  have ea : (List.map (AV.val ρ) [AV.v1 (.sc (.str n f)), AV.v1 (.sc (.it z))]).toArray = #[.string (bytesF 1 fun _ => 49), .int .i64 97] := by
    simp only [List.map_cons, List.map_nil, AV.val, V1.val, Sc.val, h1, h2]
  rw [ea]
  refine (Try.repeat97 w).mono fun e w' ⟨he, hb⟩ => ?_
  subst he
  have st : StepR (fun _ => False) (fun _ => 0) w (fun _ => False) (fun _ => 0) w' := ⟨fun _ _ => rfl, fun _ h => h, hb.size, hb.os, hb.tape, hb.output, fun b hb' _ => hb.block b hb', fun _ h => h.elim⟩
  obtain ⟨k1, k2⟩ := hr.keep st
  exact hnext ρ w' k2 k1 trivial
end Go.Proofs.Ytiaongfgkmbaaaa
