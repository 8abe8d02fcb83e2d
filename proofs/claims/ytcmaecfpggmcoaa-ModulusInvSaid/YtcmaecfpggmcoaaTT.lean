/- The table of types of this seat's translation, and that it is the program's: written by a program of ours. -/
import Derived.Test.YtcmaecfpggmcoaaChecked
import Derived.Test.YtcmaecfpggmcoaaFw
namespace Go.Proofs.Ytcmaecfpggmcoaa
open Go.Rq Go

-- 2: int64
def ty2 : TyX := { desc := .int .i64, sz := 1, zero := .sc ((.it 0)), flat := none }
theorem und2 : Try.prog.underlying 2 = some ty2.desc := by kernel_rfl
theorem siz2 : (Try.prog.info? 2).map (·.size) = some ty2.sz := by kernel_rfl
theorem zer2 : (Try.prog.info? 2).bind (·.zero) = some (ty2.zero.val fun _ => 0) := by kernel_rfl
-- 3: int
def ty3 : TyX := { desc := .int .i64, sz := 1, zero := .sc ((.it 0)), flat := none }
theorem und3 : Try.prog.underlying 3 = some ty3.desc := by kernel_rfl
theorem siz3 : (Try.prog.info? 3).map (·.size) = some ty3.sz := by kernel_rfl
theorem zer3 : (Try.prog.info? 3).bind (·.zero) = some (ty3.zero.val fun _ => 0) := by kernel_rfl
-- 4: bool
def ty4 : TyX := { desc := .bool, sz := 1, zero := .sc ((.bo false)), flat := none }
theorem und4 : Try.prog.underlying 4 = some ty4.desc := by kernel_rfl
theorem siz4 : (Try.prog.info? 4).map (·.size) = some ty4.sz := by kernel_rfl
theorem zer4 : (Try.prog.info? 4).bind (·.zero) = some (ty4.zero.val fun _ => 0) := by kernel_rfl
-- 5: uint8
def ty5 : TyX := { desc := .int .u8, sz := 1, zero := .sc ((.w .u8 0)), flat := none }
theorem und5 : Try.prog.underlying 5 = some ty5.desc := by kernel_rfl
theorem siz5 : (Try.prog.info? 5).map (·.size) = some ty5.sz := by kernel_rfl
theorem zer5 : (Try.prog.info? 5).bind (·.zero) = some (ty5.zero.val fun _ => 0) := by kernel_rfl
-- 9: string
def ty9 : TyX := { desc := .string, sz := 1, zero := .sc ((.str 0 fun _ => 0)), flat := none }
theorem und9 : Try.prog.underlying 9 = some ty9.desc := by kernel_rfl
theorem siz9 : (Try.prog.info? 9).map (·.size) = some ty9.sz := by kernel_rfl
theorem zer9 : (Try.prog.info? 9).bind (·.zero) = some (ty9.zero.val fun _ => 0) := by kernel_rfl
-- 12: uintptr
def ty12 : TyX := { desc := .int .u64, sz := 1, zero := .sc ((.w .u64 0)), flat := none }
theorem und12 : Try.prog.underlying 12 = some ty12.desc := by kernel_rfl
theorem siz12 : (Try.prog.info? 12).map (·.size) = some ty12.sz := by kernel_rfl
theorem zer12 : (Try.prog.info? 12).bind (·.zero) = some (ty12.zero.val fun _ => 0) := by kernel_rfl
-- 22: uint64
def ty22 : TyX := { desc := .int .u64, sz := 1, zero := .sc ((.w .u64 0)), flat := none }
theorem und22 : Try.prog.underlying 22 = some ty22.desc := by kernel_rfl
theorem siz22 : (Try.prog.info? 22).map (·.size) = some ty22.sz := by kernel_rfl
theorem zer22 : (Try.prog.info? 22).bind (·.zero) = some (ty22.zero.val fun _ => 0) := by kernel_rfl
-- 23: [6]uint64
def ty23 : TyX := { desc := .array 6 22, sz := 6, zero := .agg [.ws .u64 6 fun _ => 0], flat := some (List.replicate 6 [some .u64]).flatten }
theorem und23 : Try.prog.underlying 23 = some ty23.desc := by kernel_rfl
theorem siz23 : (Try.prog.info? 23).map (·.size) = some ty23.sz := by kernel_rfl
theorem zer23 : (Try.prog.info? 23).bind (·.zero) = some (ty23.zero.val fun _ => 0) := by kernel_rfl
-- 24: api.Num
def ty24 : TyX := { desc := .array 6 22, sz := 6, zero := .agg [.ws .u64 6 fun _ => 0], flat := some (List.replicate 6 [some .u64]).flatten }
theorem und24 : Try.prog.underlying 24 = some ty24.desc := by kernel_rfl
theorem siz24 : (Try.prog.info? 24).map (·.size) = some ty24.sz := by kernel_rfl
theorem zer24 : (Try.prog.info? 24).bind (·.zero) = some (ty24.zero.val fun _ => 0) := by kernel_rfl
-- 27: *modulus.Modulus
def ty27 : TyX := { desc := .pointer 53, sz := 1, zero := .sc ((.rw (.pointer none))), flat := none }
theorem und27 : Try.prog.underlying 27 = some ty27.desc := by kernel_rfl
theorem siz27 : (Try.prog.info? 27).map (·.size) = some ty27.sz := by kernel_rfl
theorem zer27 : (Try.prog.info? 27).bind (·.zero) = some (ty27.zero.val fun _ => 0) := by kernel_rfl
-- 28: api.Errno
def ty28 : TyX := { desc := .int .i64, sz := 1, zero := .sc ((.it 0)), flat := none }
theorem und28 : Try.prog.underlying 28 = some ty28.desc := by kernel_rfl
theorem siz28 : (Try.prog.info? 28).map (·.size) = some ty28.sz := by kernel_rfl
theorem zer28 : (Try.prog.info? 28).bind (·.zero) = some (ty28.zero.val fun _ => 0) := by kernel_rfl
-- 49: []api.Num
def ty49 : TyX := { desc := .slice 24, sz := 1, zero := .sc ((.rw (.slice none 0 0))), flat := none }
theorem und49 : Try.prog.underlying 49 = some ty49.desc := by kernel_rfl
theorem siz49 : (Try.prog.info? 49).map (·.size) = some ty49.sz := by kernel_rfl
theorem zer49 : (Try.prog.info? 49).bind (·.zero) = some (ty49.zero.val fun _ => 0) := by kernel_rfl
-- 52: struct { n api.Num; low uint64; wide api.Num }
def pkP0 : String := String.ofList ([114,101,108,105,113,117,97,114,121,47,109,111,100,117,108,117,115].map Char.ofNat)
def ty52 : TyX := { desc := .struct #[{ name := "n", type := 24, offset := 0, embedded := false, tag := "", pkgPath := pkP0, byteOffset := 0 }, { name := "low", type := 22, offset := 6, embedded := false, tag := "", pkgPath := pkP0, byteOffset := 48 }, { name := "wide", type := 24, offset := 7, embedded := false, tag := "", pkgPath := pkP0, byteOffset := 56 }], sz := 13, zero := .agg [.ws .u64 6 fun _ => 0, .one (.w .u64 0), .ws .u64 6 fun _ => 0], flat := some ((List.replicate 6 [some .u64]).flatten ++ ([some .u64] ++ ((List.replicate 6 [some .u64]).flatten ++ []))) }
theorem und52 : Try.prog.underlying 52 = some ty52.desc := by kernel_rfl
theorem siz52 : (Try.prog.info? 52).map (·.size) = some ty52.sz := by kernel_rfl
theorem zer52 : (Try.prog.info? 52).bind (·.zero) = some (ty52.zero.val fun _ => 0) := by kernel_rfl
-- 53: modulus.Modulus
def ty53 : TyX := { desc := .struct #[{ name := "n", type := 24, offset := 0, embedded := false, tag := "", pkgPath := pkP0, byteOffset := 0 }, { name := "low", type := 22, offset := 6, embedded := false, tag := "", pkgPath := pkP0, byteOffset := 48 }, { name := "wide", type := 24, offset := 7, embedded := false, tag := "", pkgPath := pkP0, byteOffset := 56 }], sz := 13, zero := .agg [.ws .u64 6 fun _ => 0, .one (.w .u64 0), .ws .u64 6 fun _ => 0], flat := some ((List.replicate 6 [some .u64]).flatten ++ ([some .u64] ++ ((List.replicate 6 [some .u64]).flatten ++ []))) }
theorem und53 : Try.prog.underlying 53 = some ty53.desc := by kernel_rfl
theorem siz53 : (Try.prog.info? 53).map (·.size) = some ty53.sz := by kernel_rfl
theorem zer53 : (Try.prog.info? 53).bind (·.zero) = some (ty53.zero.val fun _ => 0) := by kernel_rfl
-- 54: []*modulus.Modulus
def ty54 : TyX := { desc := .slice 27, sz := 1, zero := .sc ((.rw (.slice none 0 0))), flat := none }
theorem und54 : Try.prog.underlying 54 = some ty54.desc := by kernel_rfl
theorem siz54 : (Try.prog.info? 54).map (·.size) = some ty54.sz := by kernel_rfl
theorem zer54 : (Try.prog.info? 54).bind (·.zero) = some (ty54.zero.val fun _ => 0) := by kernel_rfl
-- 60: uint
def ty60 : TyX := { desc := .int .u64, sz := 1, zero := .sc ((.w .u64 0)), flat := none }
theorem und60 : Try.prog.underlying 60 = some ty60.desc := by kernel_rfl
theorem siz60 : (Try.prog.info? 60).map (·.size) = some ty60.sz := by kernel_rfl
theorem zer60 : (Try.prog.info? 60).bind (·.zero) = some (ty60.zero.val fun _ => 0) := by kernel_rfl
-- 61: [12]uint64
def ty61 : TyX := { desc := .array 12 22, sz := 12, zero := .agg [.ws .u64 12 fun _ => 0], flat := some (List.replicate 12 [some .u64]).flatten }
theorem und61 : Try.prog.underlying 61 = some ty61.desc := by kernel_rfl
theorem siz61 : (Try.prog.info? 61).map (·.size) = some ty61.sz := by kernel_rfl
theorem zer61 : (Try.prog.info? 61).bind (·.zero) = some (ty61.zero.val fun _ => 0) := by kernel_rfl
-- 65: []uint64
def ty65 : TyX := { desc := .slice 22, sz := 1, zero := .sc ((.rw (.slice none 0 0))), flat := none }
theorem und65 : Try.prog.underlying 65 = some ty65.desc := by kernel_rfl
theorem siz65 : (Try.prog.info? 65).map (·.size) = some ty65.sz := by kernel_rfl
theorem zer65 : (Try.prog.info? 65).bind (·.zero) = some (ty65.zero.val fun _ => 0) := by kernel_rfl
-- 66: []uint8
def ty66 : TyX := { desc := .slice 5, sz := 1, zero := .sc ((.rw (.slice none 0 0))), flat := none }
theorem und66 : Try.prog.underlying 66 = some ty66.desc := by kernel_rfl
theorem siz66 : (Try.prog.info? 66).map (·.size) = some ty66.sz := by kernel_rfl
theorem zer66 : (Try.prog.info? 66).bind (·.zero) = some (ty66.zero.val fun _ => 0) := by kernel_rfl
-- 68: [8]uint64
def ty68 : TyX := { desc := .array 8 22, sz := 8, zero := .agg [.ws .u64 8 fun _ => 0], flat := some (List.replicate 8 [some .u64]).flatten }
theorem und68 : Try.prog.underlying 68 = some ty68.desc := by kernel_rfl
theorem siz68 : (Try.prog.info? 68).map (·.size) = some ty68.sz := by kernel_rfl
theorem zer68 : (Try.prog.info? 68).bind (·.zero) = some (ty68.zero.val fun _ => 0) := by kernel_rfl
-- 70: [24]uint64
def ty70 : TyX := { desc := .array 24 22, sz := 24, zero := .agg [.ws .u64 24 fun _ => 0], flat := some (List.replicate 24 [some .u64]).flatten }
theorem und70 : Try.prog.underlying 70 = some ty70.desc := by kernel_rfl
theorem siz70 : (Try.prog.info? 70).map (·.size) = some ty70.sz := by kernel_rfl
theorem zer70 : (Try.prog.info? 70).bind (·.zero) = some (ty70.zero.val fun _ => 0) := by kernel_rfl
-- 74: [0]*runtime.PanicNilError
def ty74 : TyX := { desc := .array 0 16, sz := 0, zero := .agg [], flat := none }
theorem und74 : Try.prog.underlying 74 = some ty74.desc := by kernel_rfl
theorem siz74 : (Try.prog.info? 74).map (·.size) = some ty74.sz := by kernel_rfl
theorem zer74 : (Try.prog.info? 74).bind (·.zero) = some (ty74.zero.val fun _ => 0) := by kernel_rfl
-- 78: uint32
def ty78 : TyX := { desc := .int .u32, sz := 1, zero := .sc ((.w .u32 0)), flat := none }
theorem und78 : Try.prog.underlying 78 = some ty78.desc := by kernel_rfl
theorem siz78 : (Try.prog.info? 78).map (·.size) = some ty78.sz := by kernel_rfl
theorem zer78 : (Try.prog.info? 78).bind (·.zero) = some (ty78.zero.val fun _ => 0) := by kernel_rfl
-- 82: *uint8
def ty82 : TyX := { desc := .pointer 5, sz := 1, zero := .sc ((.rw (.pointer none))), flat := none }
theorem und82 : Try.prog.underlying 82 = some ty82.desc := by kernel_rfl
theorem siz82 : (Try.prog.info? 82).map (·.size) = some ty82.sz := by kernel_rfl
theorem zer82 : (Try.prog.info? 82).bind (·.zero) = some (ty82.zero.val fun _ => 0) := by kernel_rfl
theorem eq22 : EqOk Try.prog 1 22 false [some .u64] := eqOk_int und22 siz22
theorem eq23 : EqOk Try.prog 2 23 true (List.replicate 6 [some .u64]).flatten := eqOk_arr (n := 6) eq22 und23 siz23 siz22
theorem eq24 : EqOk Try.prog 2 24 true (List.replicate 6 [some .u64]).flatten := eqOk_arr (n := 6) eq22 und24 siz24 siz22
theorem eq61 : EqOk Try.prog 2 61 true (List.replicate 12 [some .u64]).flatten := eqOk_arr (n := 12) eq22 und61 siz61 siz22
theorem eq68 : EqOk Try.prog 2 68 true (List.replicate 8 [some .u64]).flatten := eqOk_arr (n := 8) eq22 und68 siz68 siz22
theorem eq70 : EqOk Try.prog 2 70 true (List.replicate 24 [some .u64]).flatten := eqOk_arr (n := 24) eq22 und70 siz70 siz22
theorem eq52 : EqOk Try.prog 3 52 true ((List.replicate 6 [some .u64]).flatten ++ ([some .u64] ++ ((List.replicate 6 [some .u64]).flatten ++ []))) := eqOk_struct (D := 2) (fs := match ty52.desc with | .struct fs => fs | _ => #[]) (.cons (by decide) rfl (eq24.mono (by decide)) <| .cons (by decide) rfl (eq22.mono (by decide)) <| .cons (by decide) rfl (eq24.mono (by decide)) <| .nil _) und52 siz52 (by kernel_rfl)
theorem eq53 : EqOk Try.prog 3 53 true ((List.replicate 6 [some .u64]).flatten ++ ([some .u64] ++ ((List.replicate 6 [some .u64]).flatten ++ []))) := eqOk_struct (D := 2) (fs := match ty53.desc with | .struct fs => fs | _ => #[]) (.cons (by decide) rfl (eq24.mono (by decide)) <| .cons (by decide) rfl (eq22.mono (by decide)) <| .cons (by decide) rfl (eq24.mono (by decide)) <| .nil _) und53 siz53 (by kernel_rfl)
def ttL : List (Option TyX) := [none, none, some ty2, some ty3, some ty4, some ty5, none, none, none, some ty9, none, none, some ty12, none, none, none, none, none, none, none, none, none, some ty22, some ty23, some ty24, none, none, some ty27, some ty28, none, none, none, none, none, none, none, none, none, none, none, none, none, none, none, none, none, none, none, none, some ty49, none, none, some ty52, some ty53, some ty54, none, none, none, none, none, some ty60, some ty61, none, none, none, some ty65, some ty66, none, some ty68, none, some ty70, none, none, none, some ty74, none, none, none, some ty78, none, none, none, some ty82, none, none, none, none, none]
def tt : TT := nthO ttL
theorem tt_ok : TTOk Try.prog tt := ttOk_of (l := ttL) (
  ⟨⟨und2, siz2, zer2, zok_of (by kernel_rfl), (fun sk h => by cases h), by kernel_rfl, by kernel_rfl⟩,
  ⟨⟨und3, siz3, zer3, zok_of (by kernel_rfl), (fun sk h => by cases h), by kernel_rfl, by kernel_rfl⟩,
  ⟨⟨und4, siz4, zer4, zok_of (by kernel_rfl), (fun sk h => by cases h), by kernel_rfl, by kernel_rfl⟩,
  ⟨⟨und5, siz5, zer5, zok_of (by kernel_rfl), (fun sk h => by cases h), by kernel_rfl, by kernel_rfl⟩,
  ⟨⟨und9, siz9, zer9, zok_of (by kernel_rfl), (fun sk h => by cases h), by kernel_rfl, by kernel_rfl⟩,
  ⟨⟨und12, siz12, zer12, zok_of (by kernel_rfl), (fun sk h => by cases h), by kernel_rfl, by kernel_rfl⟩,
  ⟨⟨und22, siz22, zer22, zok_of (by kernel_rfl), (fun sk h => by cases h), by kernel_rfl, by kernel_rfl⟩,
  ⟨⟨und23, siz23, zer23, zok_of (by kernel_rfl), (fun sk h => by cases h; exact ⟨by kernel_rfl, eq23.mono (by decide)⟩), by kernel_rfl, by kernel_rfl⟩,
  ⟨⟨und24, siz24, zer24, zok_of (by kernel_rfl), (fun sk h => by cases h; exact ⟨by kernel_rfl, eq24.mono (by decide)⟩), by kernel_rfl, by kernel_rfl⟩,
  ⟨⟨und27, siz27, zer27, zok_of (by kernel_rfl), (fun sk h => by cases h), by kernel_rfl, by kernel_rfl⟩,
  ⟨⟨und28, siz28, zer28, zok_of (by kernel_rfl), (fun sk h => by cases h), by kernel_rfl, by kernel_rfl⟩,
  ⟨⟨und49, siz49, zer49, zok_of (by kernel_rfl), (fun sk h => by cases h), by kernel_rfl, by kernel_rfl⟩,
  ⟨⟨und52, siz52, zer52, zok_of (by kernel_rfl), (fun sk h => by cases h; exact ⟨by kernel_rfl, eq52.mono (by decide)⟩), by kernel_rfl, by kernel_rfl⟩,
  ⟨⟨und53, siz53, zer53, zok_of (by kernel_rfl), (fun sk h => by cases h; exact ⟨by kernel_rfl, eq53.mono (by decide)⟩), by kernel_rfl, by kernel_rfl⟩,
  ⟨⟨und54, siz54, zer54, zok_of (by kernel_rfl), (fun sk h => by cases h), by kernel_rfl, by kernel_rfl⟩,
  ⟨⟨und60, siz60, zer60, zok_of (by kernel_rfl), (fun sk h => by cases h), by kernel_rfl, by kernel_rfl⟩,
  ⟨⟨und61, siz61, zer61, zok_of (by kernel_rfl), (fun sk h => by cases h; exact ⟨by kernel_rfl, eq61.mono (by decide)⟩), by kernel_rfl, by kernel_rfl⟩,
  ⟨⟨und65, siz65, zer65, zok_of (by kernel_rfl), (fun sk h => by cases h), by kernel_rfl, by kernel_rfl⟩,
  ⟨⟨und66, siz66, zer66, zok_of (by kernel_rfl), (fun sk h => by cases h), by kernel_rfl, by kernel_rfl⟩,
  ⟨⟨und68, siz68, zer68, zok_of (by kernel_rfl), (fun sk h => by cases h; exact ⟨by kernel_rfl, eq68.mono (by decide)⟩), by kernel_rfl, by kernel_rfl⟩,
  ⟨⟨und70, siz70, zer70, zok_of (by kernel_rfl), (fun sk h => by cases h; exact ⟨by kernel_rfl, eq70.mono (by decide)⟩), by kernel_rfl, by kernel_rfl⟩,
  ⟨⟨und74, siz74, zer74, zok_of (by kernel_rfl), (fun sk h => by cases h), by kernel_rfl, by kernel_rfl⟩,
  ⟨⟨und78, siz78, zer78, zok_of (by kernel_rfl), (fun sk h => by cases h), by kernel_rfl, by kernel_rfl⟩,
  ⟨⟨und82, siz82, zer82, zok_of (by kernel_rfl), (fun sk h => by cases h), by kernel_rfl, by kernel_rfl⟩,
  trivial⟩⟩⟩⟩⟩⟩⟩⟩⟩⟩⟩⟩⟩⟩⟩⟩⟩⟩⟩⟩⟩⟩⟩⟩)
theorem mixed : Try.prog.follows .mixedOrders = true := Checked.mixed Try.checked
end Go.Proofs.Ytcmaecfpggmcoaa
