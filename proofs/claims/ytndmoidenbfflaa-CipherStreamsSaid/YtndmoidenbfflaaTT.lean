/- The table of types of this seat's translation, and that it is the program's: written by a program of ours. -/
import Derived.Test.YtndmoidenbfflaaChecked
import Derived.Test.YtndmoidenbfflaaFw
namespace Go.Proofs.Ytndmoidenbfflaa
open Go.Rq Go

-- 2: int64
def ty2 : TyX := { desc := .int .i64, sz := 1, zero := .sc ((.it 0)), flat := none }
theorem und2 : Try.prog.underlying 2 = some ty2.desc := by kernel_rfl
theorem siz2 : (Try.prog.info? 2).map (·.size) = some ty2.sz := by kernel_rfl
theorem zer2 : (Try.prog.info? 2).bind (·.zero) = some (ty2.zero.val fun _ => 0) := by kernel_rfl
-- 3: int
def ty3 : TyX := { desc := .int .i64, sz := 1, zero := .sc ((.it 0)), flat := none }
theorem und3 : Try.prog.underlying 3 = some ty3.desc := by kernel_rfl
theorem siz3 : (Try.prog.info? 3).map (·.size) = some ty3.sz := by kernel_rfl
theorem zer3 : (Try.prog.info? 3).bind (·.zero) = some (ty3.zero.val fun _ => 0) := by kernel_rfl
-- 4: bool
def ty4 : TyX := { desc := .bool, sz := 1, zero := .sc ((.bo false)), flat := none }
theorem und4 : Try.prog.underlying 4 = some ty4.desc := by kernel_rfl
theorem siz4 : (Try.prog.info? 4).map (·.size) = some ty4.sz := by kernel_rfl
theorem zer4 : (Try.prog.info? 4).bind (·.zero) = some (ty4.zero.val fun _ => 0) := by kernel_rfl
-- 5: uint8
def ty5 : TyX := { desc := .int .u8, sz := 1, zero := .sc ((.w .u8 0)), flat := none }
theorem und5 : Try.prog.underlying 5 = some ty5.desc := by kernel_rfl
theorem siz5 : (Try.prog.info? 5).map (·.size) = some ty5.sz := by kernel_rfl
theorem zer5 : (Try.prog.info? 5).bind (·.zero) = some (ty5.zero.val fun _ => 0) := by kernel_rfl
-- 9: string
def ty9 : TyX := { desc := .string, sz := 1, zero := .sc ((.str 0 fun _ => 0)), flat := none }
theorem und9 : Try.prog.underlying 9 = some ty9.desc := by kernel_rfl
theorem siz9 : (Try.prog.info? 9).map (·.size) = some ty9.sz := by kernel_rfl
theorem zer9 : (Try.prog.info? 9).bind (·.zero) = some (ty9.zero.val fun _ => 0) := by kernel_rfl
-- 12: uintptr
def ty12 : TyX := { desc := .int .u64, sz := 1, zero := .sc ((.w .u64 0)), flat := none }
theorem und12 : Try.prog.underlying 12 = some ty12.desc := by kernel_rfl
theorem siz12 : (Try.prog.info? 12).map (·.size) = some ty12.sz := by kernel_rfl
theorem zer12 : (Try.prog.info? 12).bind (·.zero) = some (ty12.zero.val fun _ => 0) := by kernel_rfl
-- 22: []uint8
def ty22 : TyX := { desc := .slice 5, sz := 1, zero := .sc ((.rw (.slice none 0 0))), flat := none }
theorem und22 : Try.prog.underlying 22 = some ty22.desc := by kernel_rfl
theorem siz22 : (Try.prog.info? 22).map (·.size) = some ty22.sz := by kernel_rfl
theorem zer22 : (Try.prog.info? 22).bind (·.zero) = some (ty22.zero.val fun _ => 0) := by kernel_rfl
-- 23: uint32
def ty23 : TyX := { desc := .int .u32, sz := 1, zero := .sc ((.w .u32 0)), flat := none }
theorem und23 : Try.prog.underlying 23 = some ty23.desc := by kernel_rfl
theorem siz23 : (Try.prog.info? 23).map (·.size) = some ty23.sz := by kernel_rfl
theorem zer23 : (Try.prog.info? 23).bind (·.zero) = some (ty23.zero.val fun _ => 0) := by kernel_rfl
-- 26: api.Errno
def ty26 : TyX := { desc := .int .i64, sz := 1, zero := .sc ((.it 0)), flat := none }
theorem und26 : Try.prog.underlying 26 = some ty26.desc := by kernel_rfl
theorem siz26 : (Try.prog.info? 26).map (·.size) = some ty26.sz := by kernel_rfl
theorem zer26 : (Try.prog.info? 26).bind (·.zero) = some (ty26.zero.val fun _ => 0) := by kernel_rfl
-- 37: [][]uint8
def ty37 : TyX := { desc := .slice 22, sz := 1, zero := .sc ((.rw (.slice none 0 0))), flat := none }
theorem und37 : Try.prog.underlying 37 = some ty37.desc := by kernel_rfl
theorem siz37 : (Try.prog.info? 37).map (·.size) = some ty37.sz := by kernel_rfl
theorem zer37 : (Try.prog.info? 37).bind (·.zero) = some (ty37.zero.val fun _ => 0) := by kernel_rfl
-- 49: [64]uint8
def ty49 : TyX := { desc := .array 64 5, sz := 64, zero := .agg [.ws .u8 64 fun _ => 0], flat := some (List.replicate 64 [some .u8]).flatten }
theorem und49 : Try.prog.underlying 49 = some ty49.desc := by kernel_rfl
theorem siz49 : (Try.prog.info? 49).map (·.size) = some ty49.sz := by kernel_rfl
theorem zer49 : (Try.prog.info? 49).bind (·.zero) = some (ty49.zero.val fun _ => 0) := by kernel_rfl
-- 58: [16]uint32
def ty58 : TyX := { desc := .array 16 23, sz := 16, zero := .agg [.ws .u32 16 fun _ => 0], flat := some (List.replicate 16 [some .u32]).flatten }
theorem und58 : Try.prog.underlying 58 = some ty58.desc := by kernel_rfl
theorem siz58 : (Try.prog.info? 58).map (·.size) = some ty58.sz := by kernel_rfl
theorem zer58 : (Try.prog.info? 58).bind (·.zero) = some (ty58.zero.val fun _ => 0) := by kernel_rfl
-- 61: *uint32
def ty61 : TyX := { desc := .pointer 23, sz := 1, zero := .sc ((.rw (.pointer none))), flat := none }
theorem und61 : Try.prog.underlying 61 = some ty61.desc := by kernel_rfl
theorem siz61 : (Try.prog.info? 61).map (·.size) = some ty61.sz := by kernel_rfl
theorem zer61 : (Try.prog.info? 61).bind (·.zero) = some (ty61.zero.val fun _ => 0) := by kernel_rfl
-- 64: uint
def ty64 : TyX := { desc := .int .u64, sz := 1, zero := .sc ((.w .u64 0)), flat := none }
theorem und64 : Try.prog.underlying 64 = some ty64.desc := by kernel_rfl
theorem siz64 : (Try.prog.info? 64).map (·.size) = some ty64.sz := by kernel_rfl
theorem zer64 : (Try.prog.info? 64).bind (·.zero) = some (ty64.zero.val fun _ => 0) := by kernel_rfl
-- 65: *cipher.poly
def ty65 : TyX := { desc := .pointer 71, sz := 1, zero := .sc ((.rw (.pointer none))), flat := none }
theorem und65 : Try.prog.underlying 65 = some ty65.desc := by kernel_rfl
theorem siz65 : (Try.prog.info? 65).map (·.size) = some ty65.sz := by kernel_rfl
theorem zer65 : (Try.prog.info? 65).bind (·.zero) = some (ty65.zero.val fun _ => 0) := by kernel_rfl
-- 66: uint64
def ty66 : TyX := { desc := .int .u64, sz := 1, zero := .sc ((.w .u64 0)), flat := none }
theorem und66 : Try.prog.underlying 66 = some ty66.desc := by kernel_rfl
theorem siz66 : (Try.prog.info? 66).map (·.size) = some ty66.sz := by kernel_rfl
theorem zer66 : (Try.prog.info? 66).bind (·.zero) = some (ty66.zero.val fun _ => 0) := by kernel_rfl
-- 68: [2]uint64
def ty68 : TyX := { desc := .array 2 66, sz := 2, zero := .agg [.ws .u64 2 fun _ => 0], flat := some (List.replicate 2 [some .u64]).flatten }
theorem und68 : Try.prog.underlying 68 = some ty68.desc := by kernel_rfl
theorem siz68 : (Try.prog.info? 68).map (·.size) = some ty68.sz := by kernel_rfl
theorem zer68 : (Try.prog.info? 68).bind (·.zero) = some (ty68.zero.val fun _ => 0) := by kernel_rfl
-- 69: [3]uint64
def ty69 : TyX := { desc := .array 3 66, sz := 3, zero := .agg [.ws .u64 3 fun _ => 0], flat := some (List.replicate 3 [some .u64]).flatten }
theorem und69 : Try.prog.underlying 69 = some ty69.desc := by kernel_rfl
theorem siz69 : (Try.prog.info? 69).map (·.size) = some ty69.sz := by kernel_rfl
theorem zer69 : (Try.prog.info? 69).bind (·.zero) = some (ty69.zero.val fun _ => 0) := by kernel_rfl
-- 70: struct { a [3]uint64; r [2]uint64 }
def pkP0 : String := String.ofList ([114,101,108,105,113,117,97,114,121,47,99,105,112,104,101,114].map Char.ofNat)
def ty70 : TyX := { desc := .struct #[{ name := "a", type := 69, offset := 0, embedded := false, tag := "", pkgPath := pkP0, byteOffset := 0 }, { name := "r", type := 68, offset := 3, embedded := false, tag := "", pkgPath := pkP0, byteOffset := 24 }], sz := 5, zero := .agg [.ws .u64 3 fun _ => 0, .ws .u64 2 fun _ => 0], flat := some ((List.replicate 3 [some .u64]).flatten ++ ((List.replicate 2 [some .u64]).flatten ++ [])) }
theorem und70 : Try.prog.underlying 70 = some ty70.desc := by kernel_rfl
theorem siz70 : (Try.prog.info? 70).map (·.size) = some ty70.sz := by kernel_rfl
theorem zer70 : (Try.prog.info? 70).bind (·.zero) = some (ty70.zero.val fun _ => 0) := by kernel_rfl
-- 71: cipher.poly
def ty71 : TyX := { desc := .struct #[{ name := "a", type := 69, offset := 0, embedded := false, tag := "", pkgPath := pkP0, byteOffset := 0 }, { name := "r", type := 68, offset := 3, embedded := false, tag := "", pkgPath := pkP0, byteOffset := 24 }], sz := 5, zero := .agg [.ws .u64 3 fun _ => 0, .ws .u64 2 fun _ => 0], flat := some ((List.replicate 3 [some .u64]).flatten ++ ((List.replicate 2 [some .u64]).flatten ++ [])) }
theorem und71 : Try.prog.underlying 71 = some ty71.desc := by kernel_rfl
theorem siz71 : (Try.prog.info? 71).map (·.size) = some ty71.sz := by kernel_rfl
theorem zer71 : (Try.prog.info? 71).bind (·.zero) = some (ty71.zero.val fun _ => 0) := by kernel_rfl
-- 72: [34]int
def ty72 : TyX := { desc := .array 34 3, sz := 34, zero := .agg [.ws .i64 34 fun _ => 0], flat := some (List.replicate 34 [some .i64]).flatten }
theorem und72 : Try.prog.underlying 72 = some ty72.desc := by kernel_rfl
theorem siz72 : (Try.prog.info? 72).map (·.size) = some ty72.sz := by kernel_rfl
theorem zer72 : (Try.prog.info? 72).bind (·.zero) = some (ty72.zero.val fun _ => 0) := by kernel_rfl
-- 74: []int
def ty74 : TyX := { desc := .slice 3, sz := 1, zero := .sc ((.rw (.slice none 0 0))), flat := none }
theorem und74 : Try.prog.underlying 74 = some ty74.desc := by kernel_rfl
theorem siz74 : (Try.prog.info? 74).map (·.size) = some ty74.sz := by kernel_rfl
theorem zer74 : (Try.prog.info? 74).bind (·.zero) = some (ty74.zero.val fun _ => 0) := by kernel_rfl
-- 76: [17]uint8
def ty76 : TyX := { desc := .array 17 5, sz := 17, zero := .agg [.ws .u8 17 fun _ => 0], flat := some (List.replicate 17 [some .u8]).flatten }
theorem und76 : Try.prog.underlying 76 = some ty76.desc := by kernel_rfl
theorem siz76 : (Try.prog.info? 76).map (·.size) = some ty76.sz := by kernel_rfl
theorem zer76 : (Try.prog.info? 76).bind (·.zero) = some (ty76.zero.val fun _ => 0) := by kernel_rfl
-- 79: [68]int
def ty79 : TyX := { desc := .array 68 3, sz := 68, zero := .agg [.ws .i64 68 fun _ => 0], flat := some (List.replicate 68 [some .i64]).flatten }
theorem und79 : Try.prog.underlying 79 = some ty79.desc := by kernel_rfl
theorem siz79 : (Try.prog.info? 79).map (·.size) = some ty79.sz := by kernel_rfl
theorem zer79 : (Try.prog.info? 79).bind (·.zero) = some (ty79.zero.val fun _ => 0) := by kernel_rfl
-- 80: [70]int
def ty80 : TyX := { desc := .array 70 3, sz := 70, zero := .agg [.ws .i64 70 fun _ => 0], flat := some (List.replicate 70 [some .i64]).flatten }
theorem und80 : Try.prog.underlying 80 = some ty80.desc := by kernel_rfl
theorem siz80 : (Try.prog.info? 80).map (·.size) = some ty80.sz := by kernel_rfl
theorem zer80 : (Try.prog.info? 80).bind (·.zero) = some (ty80.zero.val fun _ => 0) := by kernel_rfl
-- 83: [4]uint64
def ty83 : TyX := { desc := .array 4 66, sz := 4, zero := .agg [.ws .u64 4 fun _ => 0], flat := some (List.replicate 4 [some .u64]).flatten }
theorem und83 : Try.prog.underlying 83 = some ty83.desc := by kernel_rfl
theorem siz83 : (Try.prog.info? 83).map (·.size) = some ty83.sz := by kernel_rfl
theorem zer83 : (Try.prog.info? 83).bind (·.zero) = some (ty83.zero.val fun _ => 0) := by kernel_rfl
-- 88: [0]*runtime.PanicNilError
def ty88 : TyX := { desc := .array 0 16, sz := 0, zero := .agg [], flat := none }
theorem und88 : Try.prog.underlying 88 = some ty88.desc := by kernel_rfl
theorem siz88 : (Try.prog.info? 88).map (·.size) = some ty88.sz := by kernel_rfl
theorem zer88 : (Try.prog.info? 88).bind (·.zero) = some (ty88.zero.val fun _ => 0) := by kernel_rfl
-- 94: func(unsafe.Pointer, unsafe.Pointer) bool
def ty94 : TyX := { desc := .func #[100, 100] #[4] false, sz := 1, zero := .sc ((.rw .nilFunc)), flat := none }
theorem und94 : Try.prog.underlying 94 = some ty94.desc := by kernel_rfl
theorem siz94 : (Try.prog.info? 94).map (·.size) = some ty94.sz := by kernel_rfl
theorem zer94 : (Try.prog.info? 94).bind (·.zero) = some (ty94.zero.val fun _ => 0) := by kernel_rfl
-- 95: *uint8
def ty95 : TyX := { desc := .pointer 5, sz := 1, zero := .sc ((.rw (.pointer none))), flat := none }
theorem und95 : Try.prog.underlying 95 = some ty95.desc := by kernel_rfl
theorem siz95 : (Try.prog.info? 95).map (·.size) = some ty95.sz := by kernel_rfl
theorem zer95 : (Try.prog.info? 95).bind (·.zero) = some (ty95.zero.val fun _ => 0) := by kernel_rfl
theorem eq5 : EqOk Try.prog 1 5 false [some .u8] := eqOk_int und5 siz5
theorem eq23 : EqOk Try.prog 1 23 false [some .u32] := eqOk_int und23 siz23
theorem eq66 : EqOk Try.prog 1 66 false [some .u64] := eqOk_int und66 siz66
theorem eq3 : EqOk Try.prog 1 3 false [some .i64] := eqOk_int und3 siz3
theorem eq49 : EqOk Try.prog 2 49 true (List.replicate 64 [some .u8]).flatten := eqOk_arr (n := 64) eq5 und49 siz49 siz5
theorem eq58 : EqOk Try.prog 2 58 true (List.replicate 16 [some .u32]).flatten := eqOk_arr (n := 16) eq23 und58 siz58 siz23
theorem eq68 : EqOk Try.prog 2 68 true (List.replicate 2 [some .u64]).flatten := eqOk_arr (n := 2) eq66 und68 siz68 siz66
theorem eq69 : EqOk Try.prog 2 69 true (List.replicate 3 [some .u64]).flatten := eqOk_arr (n := 3) eq66 und69 siz69 siz66
theorem eq72 : EqOk Try.prog 2 72 true (List.replicate 34 [some .i64]).flatten := eqOk_arr (n := 34) eq3 und72 siz72 siz3
theorem eq76 : EqOk Try.prog 2 76 true (List.replicate 17 [some .u8]).flatten := eqOk_arr (n := 17) eq5 und76 siz76 siz5
theorem eq79 : EqOk Try.prog 2 79 true (List.replicate 68 [some .i64]).flatten := eqOk_arr (n := 68) eq3 und79 siz79 siz3
theorem eq80 : EqOk Try.prog 2 80 true (List.replicate 70 [some .i64]).flatten := eqOk_arr (n := 70) eq3 und80 siz80 siz3
theorem eq83 : EqOk Try.prog 2 83 true (List.replicate 4 [some .u64]).flatten := eqOk_arr (n := 4) eq66 und83 siz83 siz66
theorem eq70 : EqOk Try.prog 3 70 true ((List.replicate 3 [some .u64]).flatten ++ ((List.replicate 2 [some .u64]).flatten ++ [])) := eqOk_struct (D := 2) (fs := match ty70.desc with | .struct fs => fs | _ => #[]) (.cons (by decide) rfl (eq69.mono (by decide)) <| .cons (by decide) rfl (eq68.mono (by decide)) <| .nil _) und70 siz70 (by kernel_rfl)
theorem eq71 : EqOk Try.prog 3 71 true ((List.replicate 3 [some .u64]).flatten ++ ((List.replicate 2 [some .u64]).flatten ++ [])) := eqOk_struct (D := 2) (fs := match ty71.desc with | .struct fs => fs | _ => #[]) (.cons (by decide) rfl (eq69.mono (by decide)) <| .cons (by decide) rfl (eq68.mono (by decide)) <| .nil _) und71 siz71 (by kernel_rfl)
def ttL : List (Option TyX) := [none, none, some ty2, some ty3, some ty4, some ty5, none, none, none, some ty9, none, none, some ty12, none, none, none, none, none, none, none, none, none, some ty22, some ty23, none, none, some ty26, none, none, none, none, none, none, none, none, none, none, some ty37, none, none, none, none, none, none, none, none, none, none, none, some ty49, none, none, none, none, none, none, none, none, some ty58, none, none, some ty61, none, none, some ty64, some ty65, some ty66, none, some ty68, some ty69, some ty70, some ty71, some ty72, none, some ty74, none, some ty76, none, none, some ty79, some ty80, none, none, some ty83, none, none, none, none, some ty88, none, none, none, none, none, some ty94, some ty95, none, none, none, none, none]
def tt : TT := nthO ttL
theorem tt_ok : TTOk Try.prog tt := ttOk_of (l := ttL) (
  ⟨⟨und2, siz2, zer2, zok_of (by kernel_rfl), (fun sk h => by cases h), by kernel_rfl, by kernel_rfl⟩,
  ⟨⟨und3, siz3, zer3, zok_of (by kernel_rfl), (fun sk h => by cases h), by kernel_rfl, by kernel_rfl⟩,
  ⟨⟨und4, siz4, zer4, zok_of (by kernel_rfl), (fun sk h => by cases h), by kernel_rfl, by kernel_rfl⟩,
  ⟨⟨und5, siz5, zer5, zok_of (by kernel_rfl), (fun sk h => by cases h), by kernel_rfl, by kernel_rfl⟩,
  ⟨⟨und9, siz9, zer9, zok_of (by kernel_rfl), (fun sk h => by cases h), by kernel_rfl, by kernel_rfl⟩,
  ⟨⟨und12, siz12, zer12, zok_of (by kernel_rfl), (fun sk h => by cases h), by kernel_rfl, by kernel_rfl⟩,
  ⟨⟨und22, siz22, zer22, zok_of (by kernel_rfl), (fun sk h => by cases h), by kernel_rfl, by kernel_rfl⟩,
  ⟨⟨und23, siz23, zer23, zok_of (by kernel_rfl), (fun sk h => by cases h), by kernel_rfl, by kernel_rfl⟩,
  ⟨⟨und26, siz26, zer26, zok_of (by kernel_rfl), (fun sk h => by cases h), by kernel_rfl, by kernel_rfl⟩,
  ⟨⟨und37, siz37, zer37, zok_of (by kernel_rfl), (fun sk h => by cases h), by kernel_rfl, by kernel_rfl⟩,
  ⟨⟨und49, siz49, zer49, zok_of (by kernel_rfl), (fun sk h => by cases h; exact ⟨by kernel_rfl, eq49.mono (by decide)⟩), by kernel_rfl, by kernel_rfl⟩,
  ⟨⟨und58, siz58, zer58, zok_of (by kernel_rfl), (fun sk h => by cases h; exact ⟨by kernel_rfl, eq58.mono (by decide)⟩), by kernel_rfl, by kernel_rfl⟩,
  ⟨⟨und61, siz61, zer61, zok_of (by kernel_rfl), (fun sk h => by cases h), by kernel_rfl, by kernel_rfl⟩,
  ⟨⟨und64, siz64, zer64, zok_of (by kernel_rfl), (fun sk h => by cases h), by kernel_rfl, by kernel_rfl⟩,
  ⟨⟨und65, siz65, zer65, zok_of (by kernel_rfl), (fun sk h => by cases h), by kernel_rfl, by kernel_rfl⟩,
  ⟨⟨und66, siz66, zer66, zok_of (by kernel_rfl), (fun sk h => by cases h), by kernel_rfl, by kernel_rfl⟩,
  ⟨⟨und68, siz68, zer68, zok_of (by kernel_rfl), (fun sk h => by cases h; exact ⟨by kernel_rfl, eq68.mono (by decide)⟩), by kernel_rfl, by kernel_rfl⟩,
  ⟨⟨und69, siz69, zer69, zok_of (by kernel_rfl), (fun sk h => by cases h; exact ⟨by kernel_rfl, eq69.mono (by decide)⟩), by kernel_rfl, by kernel_rfl⟩,
  ⟨⟨und70, siz70, zer70, zok_of (by kernel_rfl), (fun sk h => by cases h; exact ⟨by kernel_rfl, eq70.mono (by decide)⟩), by kernel_rfl, by kernel_rfl⟩,
  ⟨⟨und71, siz71, zer71, zok_of (by kernel_rfl), (fun sk h => by cases h; exact ⟨by kernel_rfl, eq71.mono (by decide)⟩), by kernel_rfl, by kernel_rfl⟩,
  ⟨⟨und72, siz72, zer72, zok_of (by kernel_rfl), (fun sk h => by cases h; exact ⟨by kernel_rfl, eq72.mono (by decide)⟩), by kernel_rfl, by kernel_rfl⟩,
  ⟨⟨und74, siz74, zer74, zok_of (by kernel_rfl), (fun sk h => by cases h), by kernel_rfl, by kernel_rfl⟩,
  ⟨⟨und76, siz76, zer76, zok_of (by kernel_rfl), (fun sk h => by cases h; exact ⟨by kernel_rfl, eq76.mono (by decide)⟩), by kernel_rfl, by kernel_rfl⟩,
  ⟨⟨und79, siz79, zer79, zok_of (by kernel_rfl), (fun sk h => by cases h; exact ⟨by kernel_rfl, eq79.mono (by decide)⟩), by kernel_rfl, by kernel_rfl⟩,
  ⟨⟨und80, siz80, zer80, zok_of (by kernel_rfl), (fun sk h => by cases h; exact ⟨by kernel_rfl, eq80.mono (by decide)⟩), by kernel_rfl, by kernel_rfl⟩,
  ⟨⟨und83, siz83, zer83, zok_of (by kernel_rfl), (fun sk h => by cases h; exact ⟨by kernel_rfl, eq83.mono (by decide)⟩), by kernel_rfl, by kernel_rfl⟩,
  ⟨⟨und88, siz88, zer88, zok_of (by kernel_rfl), (fun sk h => by cases h), by kernel_rfl, by kernel_rfl⟩,
  ⟨⟨und94, siz94, zer94, zok_of (by kernel_rfl), (fun sk h => by cases h), by kernel_rfl, by kernel_rfl⟩,
  ⟨⟨und95, siz95, zer95, zok_of (by kernel_rfl), (fun sk h => by cases h), by kernel_rfl, by kernel_rfl⟩,
  trivial⟩⟩⟩⟩⟩⟩⟩⟩⟩⟩⟩⟩⟩⟩⟩⟩⟩⟩⟩⟩⟩⟩⟩⟩⟩⟩⟩⟩⟩)
theorem mixed : Try.prog.follows .mixedOrders = true := Checked.mixed Try.checked
end Go.Proofs.Ytndmoidenbfflaa
