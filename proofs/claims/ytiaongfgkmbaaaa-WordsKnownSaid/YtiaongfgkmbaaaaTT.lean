/- The table of types of this seat's translation, and that it is the program's: written by a program of ours. -/
import Derived.Test.YtiaongfgkmbaaaaChecked
import Derived.Test.YtiaongfgkmbaaaaFw
namespace Go.Proofs.Ytiaongfgkmbaaaa
open Go.Rq Go

-- 2: int64
def ty2 : TyX := { desc := .int .i64, sz := 1, zero := .sc ((.it 0)), flat := none }
theorem und2 : Try.prog.underlying 2 = some ty2.desc := by kernel_rfl
theorem siz2 : (Try.prog.info? 2).map (·.size) = some ty2.sz := by kernel_rfl
theorem zer2 : (Try.prog.info? 2).bind (·.zero) = some (ty2.zero.val fun _ => 0) := by kernel_rfl
-- 3: int
def ty3 : TyX := { desc := .int .i64, sz := 1, zero := .sc ((.it 0)), flat := none }
theorem und3 : Try.prog.underlying 3 = some ty3.desc := by kernel_rfl
theorem siz3 : (Try.prog.info? 3).map (·.size) = some ty3.sz := by kernel_rfl
theorem zer3 : (Try.prog.info? 3).bind (·.zero) = some (ty3.zero.val fun _ => 0) := by kernel_rfl
-- 4: bool
def ty4 : TyX := { desc := .bool, sz := 1, zero := .sc ((.bo false)), flat := none }
theorem und4 : Try.prog.underlying 4 = some ty4.desc := by kernel_rfl
theorem siz4 : (Try.prog.info? 4).map (·.size) = some ty4.sz := by kernel_rfl
theorem zer4 : (Try.prog.info? 4).bind (·.zero) = some (ty4.zero.val fun _ => 0) := by kernel_rfl
-- 5: uint8
def ty5 : TyX := { desc := .int .u8, sz := 1, zero := .sc ((.w .u8 0)), flat := none }
theorem und5 : Try.prog.underlying 5 = some ty5.desc := by kernel_rfl
theorem siz5 : (Try.prog.info? 5).map (·.size) = some ty5.sz := by kernel_rfl
theorem zer5 : (Try.prog.info? 5).bind (·.zero) = some (ty5.zero.val fun _ => 0) := by kernel_rfl
-- 9: string
def ty9 : TyX := { desc := .string, sz := 1, zero := .sc ((.str 0 fun _ => 0)), flat := none }
theorem und9 : Try.prog.underlying 9 = some ty9.desc := by kernel_rfl
theorem siz9 : (Try.prog.info? 9).map (·.size) = some ty9.sz := by kernel_rfl
theorem zer9 : (Try.prog.info? 9).bind (·.zero) = some (ty9.zero.val fun _ => 0) := by kernel_rfl
-- 12: uintptr
def ty12 : TyX := { desc := .int .u64, sz := 1, zero := .sc ((.w .u64 0)), flat := none }
theorem und12 : Try.prog.underlying 12 = some ty12.desc := by kernel_rfl
theorem siz12 : (Try.prog.info? 12).map (·.size) = some ty12.sz := by kernel_rfl
theorem zer12 : (Try.prog.info? 12).bind (·.zero) = some (ty12.zero.val fun _ => 0) := by kernel_rfl
-- 22: uint64
def ty22 : TyX := { desc := .int .u64, sz := 1, zero := .sc ((.w .u64 0)), flat := none }
theorem und22 : Try.prog.underlying 22 = some ty22.desc := by kernel_rfl
theorem siz22 : (Try.prog.info? 22).map (·.size) = some ty22.sz := by kernel_rfl
theorem zer22 : (Try.prog.info? 22).bind (·.zero) = some (ty22.zero.val fun _ => 0) := by kernel_rfl
-- 23: [6]uint64
def ty23 : TyX := { desc := .array 6 22, sz := 6, zero := .agg [.ws .u64 6 fun _ => 0], flat := some (List.replicate 6 [some .u64]).flatten }
theorem und23 : Try.prog.underlying 23 = some ty23.desc := by kernel_rfl
theorem siz23 : (Try.prog.info? 23).map (·.size) = some ty23.sz := by kernel_rfl
theorem zer23 : (Try.prog.info? 23).bind (·.zero) = some (ty23.zero.val fun _ => 0) := by kernel_rfl
-- 24: api.Num
def ty24 : TyX := { desc := .array 6 22, sz := 6, zero := .agg [.ws .u64 6 fun _ => 0], flat := some (List.replicate 6 [some .u64]).flatten }
theorem und24 : Try.prog.underlying 24 = some ty24.desc := by kernel_rfl
theorem siz24 : (Try.prog.info? 24).map (·.size) = some ty24.sz := by kernel_rfl
theorem zer24 : (Try.prog.info? 24).bind (·.zero) = some (ty24.zero.val fun _ => 0) := by kernel_rfl
-- 25: []uint8
def ty25 : TyX := { desc := .slice 5, sz := 1, zero := .sc ((.rw (.slice none 0 0))), flat := none }
theorem und25 : Try.prog.underlying 25 = some ty25.desc := by kernel_rfl
theorem siz25 : (Try.prog.info? 25).map (·.size) = some ty25.sz := by kernel_rfl
theorem zer25 : (Try.prog.info? 25).bind (·.zero) = some (ty25.zero.val fun _ => 0) := by kernel_rfl
-- 28: api.Errno
def ty28 : TyX := { desc := .int .i64, sz := 1, zero := .sc ((.it 0)), flat := none }
theorem und28 : Try.prog.underlying 28 = some ty28.desc := by kernel_rfl
theorem siz28 : (Try.prog.info? 28).map (·.size) = some ty28.sz := by kernel_rfl
theorem zer28 : (Try.prog.info? 28).bind (·.zero) = some (ty28.zero.val fun _ => 0) := by kernel_rfl
-- 34: [][]uint8
def ty34 : TyX := { desc := .slice 25, sz := 1, zero := .sc ((.rw (.slice none 0 0))), flat := none }
theorem und34 : Try.prog.underlying 34 = some ty34.desc := by kernel_rfl
theorem siz34 : (Try.prog.info? 34).map (·.size) = some ty34.sz := by kernel_rfl
theorem zer34 : (Try.prog.info? 34).bind (·.zero) = some (ty34.zero.val fun _ => 0) := by kernel_rfl
-- 55: []string
def ty55 : TyX := { desc := .slice 9, sz := 1, zero := .sc ((.rw (.slice none 0 0))), flat := none }
theorem und55 : Try.prog.underlying 55 = some ty55.desc := by kernel_rfl
theorem siz55 : (Try.prog.info? 55).map (·.size) = some ty55.sz := by kernel_rfl
theorem zer55 : (Try.prog.info? 55).bind (·.zero) = some (ty55.zero.val fun _ => 0) := by kernel_rfl
-- 61: [12]uint64
def ty61 : TyX := { desc := .array 12 22, sz := 12, zero := .agg [.ws .u64 12 fun _ => 0], flat := some (List.replicate 12 [some .u64]).flatten }
theorem und61 : Try.prog.underlying 61 = some ty61.desc := by kernel_rfl
theorem siz61 : (Try.prog.info? 61).map (·.size) = some ty61.sz := by kernel_rfl
theorem zer61 : (Try.prog.info? 61).bind (·.zero) = some (ty61.zero.val fun _ => 0) := by kernel_rfl
-- 63: []uint64
def ty63 : TyX := { desc := .slice 22, sz := 1, zero := .sc ((.rw (.slice none 0 0))), flat := none }
theorem und63 : Try.prog.underlying 63 = some ty63.desc := by kernel_rfl
theorem siz63 : (Try.prog.info? 63).map (·.size) = some ty63.sz := by kernel_rfl
theorem zer63 : (Try.prog.info? 63).bind (·.zero) = some (ty63.zero.val fun _ => 0) := by kernel_rfl
-- 65: [24]uint64
def ty65 : TyX := { desc := .array 24 22, sz := 24, zero := .agg [.ws .u64 24 fun _ => 0], flat := some (List.replicate 24 [some .u64]).flatten }
theorem und65 : Try.prog.underlying 65 = some ty65.desc := by kernel_rfl
theorem siz65 : (Try.prog.info? 65).map (·.size) = some ty65.sz := by kernel_rfl
theorem zer65 : (Try.prog.info? 65).bind (·.zero) = some (ty65.zero.val fun _ => 0) := by kernel_rfl
-- 66: uint
def ty66 : TyX := { desc := .int .u64, sz := 1, zero := .sc ((.w .u64 0)), flat := none }
theorem und66 : Try.prog.underlying 66 = some ty66.desc := by kernel_rfl
theorem siz66 : (Try.prog.info? 66).map (·.size) = some ty66.sz := by kernel_rfl
theorem zer66 : (Try.prog.info? 66).bind (·.zero) = some (ty66.zero.val fun _ => 0) := by kernel_rfl
-- 71: *strings.Builder
def ty71 : TyX := { desc := .pointer 73, sz := 1, zero := .sc ((.rw (.pointer none))), flat := none }
theorem und71 : Try.prog.underlying 71 = some ty71.desc := by kernel_rfl
theorem siz71 : (Try.prog.info? 71).map (·.size) = some ty71.sz := by kernel_rfl
theorem zer71 : (Try.prog.info? 71).bind (·.zero) = some (ty71.zero.val fun _ => 0) := by kernel_rfl
-- 81: uint32
def ty81 : TyX := { desc := .int .u32, sz := 1, zero := .sc ((.w .u32 0)), flat := none }
theorem und81 : Try.prog.underlying 81 = some ty81.desc := by kernel_rfl
theorem siz81 : (Try.prog.info? 81).map (·.size) = some ty81.sz := by kernel_rfl
theorem zer81 : (Try.prog.info? 81).bind (·.zero) = some (ty81.zero.val fun _ => 0) := by kernel_rfl
-- 84: *uint8
def ty84 : TyX := { desc := .pointer 5, sz := 1, zero := .sc ((.rw (.pointer none))), flat := none }
theorem und84 : Try.prog.underlying 84 = some ty84.desc := by kernel_rfl
theorem siz84 : (Try.prog.info? 84).map (·.size) = some ty84.sz := by kernel_rfl
theorem zer84 : (Try.prog.info? 84).bind (·.zero) = some (ty84.zero.val fun _ => 0) := by kernel_rfl
-- 90: [0]*runtime.PanicNilError
def ty90 : TyX := { desc := .array 0 16, sz := 0, zero := .agg [], flat := none }
theorem und90 : Try.prog.underlying 90 = some ty90.desc := by kernel_rfl
theorem siz90 : (Try.prog.info? 90).map (·.size) = some ty90.sz := by kernel_rfl
theorem zer90 : (Try.prog.info? 90).bind (·.zero) = some (ty90.zero.val fun _ => 0) := by kernel_rfl
-- 95: func(unsafe.Pointer, unsafe.Pointer) bool
def ty95 : TyX := { desc := .func #[85, 85] #[4] false, sz := 1, zero := .sc ((.rw .nilFunc)), flat := none }
theorem und95 : Try.prog.underlying 95 = some ty95.desc := by kernel_rfl
theorem siz95 : (Try.prog.info? 95).map (·.size) = some ty95.sz := by kernel_rfl
theorem zer95 : (Try.prog.info? 95).bind (·.zero) = some (ty95.zero.val fun _ => 0) := by kernel_rfl
theorem eq22 : EqOk Try.prog 1 22 false [some .u64] := eqOk_int und22 siz22
theorem eq23 : EqOk Try.prog 2 23 true (List.replicate 6 [some .u64]).flatten := eqOk_arr (n := 6) eq22 und23 siz23 siz22
theorem eq24 : EqOk Try.prog 2 24 true (List.replicate 6 [some .u64]).flatten := eqOk_arr (n := 6) eq22 und24 siz24 siz22
theorem eq61 : EqOk Try.prog 2 61 true (List.replicate 12 [some .u64]).flatten := eqOk_arr (n := 12) eq22 und61 siz61 siz22
theorem eq65 : EqOk Try.prog 2 65 true (List.replicate 24 [some .u64]).flatten := eqOk_arr (n := 24) eq22 und65 siz65 siz22
def ttL : List (Option TyX) := [none, none, some ty2, some ty3, some ty4, some ty5, none, none, none, some ty9, none, none, some ty12, none, none, none, none, none, none, none, none, none, some ty22, some ty23, some ty24, some ty25, none, none, some ty28, none, none, none, none, none, some ty34, none, none, none, none, none, none, none, none, none, none, none, none, none, none, none, none, none, none, none, none, some ty55, none, none, none, none, none, some ty61, none, some ty63, none, some ty65, some ty66, none, none, none, none, some ty71, none, none, none, none, none, none, none, none, none, some ty81, none, none, some ty84, none, none, none, none, none, some ty90, none, none, none, none, some ty95, none, none, none, none]
def tt : TT := nthO ttL
theorem tt_ok : TTOk Try.prog tt := ttOk_of (l := ttL) (
  ⟨⟨und2, siz2, zer2, zok_of (by kernel_rfl), (fun sk h => by cases h), by kernel_rfl, by kernel_rfl⟩,
  ⟨⟨und3, siz3, zer3, zok_of (by kernel_rfl), (fun sk h => by cases h), by kernel_rfl, by kernel_rfl⟩,
  ⟨⟨und4, siz4, zer4, zok_of (by kernel_rfl), (fun sk h => by cases h), by kernel_rfl, by kernel_rfl⟩,
  ⟨⟨und5, siz5, zer5, zok_of (by kernel_rfl), (fun sk h => by cases h), by kernel_rfl, by kernel_rfl⟩,
  ⟨⟨und9, siz9, zer9, zok_of (by kernel_rfl), (fun sk h => by cases h), by kernel_rfl, by kernel_rfl⟩,
  ⟨⟨und12, siz12, zer12, zok_of (by kernel_rfl), (fun sk h => by cases h), by kernel_rfl, by kernel_rfl⟩,
  ⟨⟨und22, siz22, zer22, zok_of (by kernel_rfl), (fun sk h => by cases h), by kernel_rfl, by kernel_rfl⟩,
  ⟨⟨und23, siz23, zer23, zok_of (by kernel_rfl), (fun sk h => by cases h; exact ⟨by kernel_rfl, eq23.mono (by decide)⟩), by kernel_rfl, by kernel_rfl⟩,
  ⟨⟨und24, siz24, zer24, zok_of (by kernel_rfl), (fun sk h => by cases h; exact ⟨by kernel_rfl, eq24.mono (by decide)⟩), by kernel_rfl, by kernel_rfl⟩,
  ⟨⟨und25, siz25, zer25, zok_of (by kernel_rfl), (fun sk h => by cases h), by kernel_rfl, by kernel_rfl⟩,
  ⟨⟨und28, siz28, zer28, zok_of (by kernel_rfl), (fun sk h => by cases h), by kernel_rfl, by kernel_rfl⟩,
  ⟨⟨und34, siz34, zer34, zok_of (by kernel_rfl), (fun sk h => by cases h), by kernel_rfl, by kernel_rfl⟩,
  ⟨⟨und55, siz55, zer55, zok_of (by kernel_rfl), (fun sk h => by cases h), by kernel_rfl, by kernel_rfl⟩,
  ⟨⟨und61, siz61, zer61, zok_of (by kernel_rfl), (fun sk h => by cases h; exact ⟨by kernel_rfl, eq61.mono (by decide)⟩), by kernel_rfl, by kernel_rfl⟩,
  ⟨⟨und63, siz63, zer63, zok_of (by kernel_rfl), (fun sk h => by cases h), by kernel_rfl, by kernel_rfl⟩,
  ⟨⟨und65, siz65, zer65, zok_of (by kernel_rfl), (fun sk h => by cases h; exact ⟨by kernel_rfl, eq65.mono (by decide)⟩), by kernel_rfl, by kernel_rfl⟩,
  ⟨⟨und66, siz66, zer66, zok_of (by kernel_rfl), (fun sk h => by cases h), by kernel_rfl, by kernel_rfl⟩,
  ⟨⟨und71, siz71, zer71, zok_of (by kernel_rfl), (fun sk h => by cases h), by kernel_rfl, by kernel_rfl⟩,
  ⟨⟨und81, siz81, zer81, zok_of (by kernel_rfl), (fun sk h => by cases h), by kernel_rfl, by kernel_rfl⟩,
  ⟨⟨und84, siz84, zer84, zok_of (by kernel_rfl), (fun sk h => by cases h), by kernel_rfl, by kernel_rfl⟩,
  ⟨⟨und90, siz90, zer90, zok_of (by kernel_rfl), (fun sk h => by cases h), by kernel_rfl, by kernel_rfl⟩,
  ⟨⟨und95, siz95, zer95, zok_of (by kernel_rfl), (fun sk h => by cases h), by kernel_rfl, by kernel_rfl⟩,
  trivial⟩⟩⟩⟩⟩⟩⟩⟩⟩⟩⟩⟩⟩⟩⟩⟩⟩⟩⟩⟩⟩⟩)
theorem mixed : Try.prog.follows .mixedOrders = true := Checked.mixed Try.checked
end Go.Proofs.Ytiaongfgkmbaaaa
