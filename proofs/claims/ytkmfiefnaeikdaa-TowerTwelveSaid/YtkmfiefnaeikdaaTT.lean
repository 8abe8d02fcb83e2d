/- The table of types of this seat's translation, and that it is the program's: written by a program of ours. -/
import Derived.Test.YtkmfiefnaeikdaaChecked
import Derived.Test.YtkmfiefnaeikdaaFw
namespace Go.Proofs.Ytkmfiefnaeikdaa
open Go.Rq Go

-- 2: int64
def ty2 : TyX := { desc := .int .i64, sz := 1, zero := .sc ((.it 0)), flat := none }
theorem und2 : Try.prog.underlying 2 = some ty2.desc := by kernel_rfl
theorem siz2 : (Try.prog.info? 2).map (·.size) = some ty2.sz := by kernel_rfl
theorem zer2 : (Try.prog.info? 2).bind (·.zero) = some (ty2.zero.val fun _ => 0) := by kernel_rfl
-- 3: int
def ty3 : TyX := { desc := .int .i64, sz := 1, zero := .sc ((.it 0)), flat := none }
theorem und3 : Try.prog.underlying 3 = some ty3.desc := by kernel_rfl
theorem siz3 : (Try.prog.info? 3).map (·.size) = some ty3.sz := by kernel_rfl
theorem zer3 : (Try.prog.info? 3).bind (·.zero) = some (ty3.zero.val fun _ => 0) := by kernel_rfl
-- 4: bool
def ty4 : TyX := { desc := .bool, sz := 1, zero := .sc ((.bo false)), flat := none }
theorem und4 : Try.prog.underlying 4 = some ty4.desc := by kernel_rfl
theorem siz4 : (Try.prog.info? 4).map (·.size) = some ty4.sz := by kernel_rfl
theorem zer4 : (Try.prog.info? 4).bind (·.zero) = some (ty4.zero.val fun _ => 0) := by kernel_rfl
-- 5: uint8
def ty5 : TyX := { desc := .int .u8, sz := 1, zero := .sc ((.w .u8 0)), flat := none }
theorem und5 : Try.prog.underlying 5 = some ty5.desc := by kernel_rfl
theorem siz5 : (Try.prog.info? 5).map (·.size) = some ty5.sz := by kernel_rfl
theorem zer5 : (Try.prog.info? 5).bind (·.zero) = some (ty5.zero.val fun _ => 0) := by kernel_rfl
-- 9: string
def ty9 : TyX := { desc := .string, sz := 1, zero := .sc ((.str 0 fun _ => 0)), flat := none }
theorem und9 : Try.prog.underlying 9 = some ty9.desc := by kernel_rfl
theorem siz9 : (Try.prog.info? 9).map (·.size) = some ty9.sz := by kernel_rfl
theorem zer9 : (Try.prog.info? 9).bind (·.zero) = some (ty9.zero.val fun _ => 0) := by kernel_rfl
-- 12: uintptr
def ty12 : TyX := { desc := .int .u64, sz := 1, zero := .sc ((.w .u64 0)), flat := none }
theorem und12 : Try.prog.underlying 12 = some ty12.desc := by kernel_rfl
theorem siz12 : (Try.prog.info? 12).map (·.size) = some ty12.sz := by kernel_rfl
theorem zer12 : (Try.prog.info? 12).bind (·.zero) = some (ty12.zero.val fun _ => 0) := by kernel_rfl
-- 22: uint64
def ty22 : TyX := { desc := .int .u64, sz := 1, zero := .sc ((.w .u64 0)), flat := none }
theorem und22 : Try.prog.underlying 22 = some ty22.desc := by kernel_rfl
theorem siz22 : (Try.prog.info? 22).map (·.size) = some ty22.sz := by kernel_rfl
theorem zer22 : (Try.prog.info? 22).bind (·.zero) = some (ty22.zero.val fun _ => 0) := by kernel_rfl
-- 23: [6]uint64
def ty23 : TyX := { desc := .array 6 22, sz := 6, zero := .agg [.ws .u64 6 fun _ => 0], flat := some (List.replicate 6 [some .u64]).flatten }
theorem und23 : Try.prog.underlying 23 = some ty23.desc := by kernel_rfl
theorem siz23 : (Try.prog.info? 23).map (·.size) = some ty23.sz := by kernel_rfl
theorem zer23 : (Try.prog.info? 23).bind (·.zero) = some (ty23.zero.val fun _ => 0) := by kernel_rfl
-- 24: api.Num
def ty24 : TyX := { desc := .array 6 22, sz := 6, zero := .agg [.ws .u64 6 fun _ => 0], flat := some (List.replicate 6 [some .u64]).flatten }
theorem und24 : Try.prog.underlying 24 = some ty24.desc := by kernel_rfl
theorem siz24 : (Try.prog.info? 24).map (·.size) = some ty24.sz := by kernel_rfl
theorem zer24 : (Try.prog.info? 24).bind (·.zero) = some (ty24.zero.val fun _ => 0) := by kernel_rfl
-- 25: [2]api.Num
def ty25 : TyX := { desc := .array 2 24, sz := 12, zero := .agg [.ws .u64 6 fun _ => 0, .ws .u64 6 fun _ => 0], flat := some (List.replicate 2 (List.replicate 6 [some .u64]).flatten).flatten }
theorem und25 : Try.prog.underlying 25 = some ty25.desc := by kernel_rfl
theorem siz25 : (Try.prog.info? 25).map (·.size) = some ty25.sz := by kernel_rfl
theorem zer25 : (Try.prog.info? 25).bind (·.zero) = some (ty25.zero.val fun _ => 0) := by kernel_rfl
-- 26: api.E2
def ty26 : TyX := { desc := .array 2 24, sz := 12, zero := .agg [.ws .u64 6 fun _ => 0, .ws .u64 6 fun _ => 0], flat := some (List.replicate 2 (List.replicate 6 [some .u64]).flatten).flatten }
theorem und26 : Try.prog.underlying 26 = some ty26.desc := by kernel_rfl
theorem siz26 : (Try.prog.info? 26).map (·.size) = some ty26.sz := by kernel_rfl
theorem zer26 : (Try.prog.info? 26).bind (·.zero) = some (ty26.zero.val fun _ => 0) := by kernel_rfl
-- 29: api.Errno
def ty29 : TyX := { desc := .int .i64, sz := 1, zero := .sc ((.it 0)), flat := none }
theorem und29 : Try.prog.underlying 29 = some ty29.desc := by kernel_rfl
theorem siz29 : (Try.prog.info? 29).map (·.size) = some ty29.sz := by kernel_rfl
theorem zer29 : (Try.prog.info? 29).bind (·.zero) = some (ty29.zero.val fun _ => 0) := by kernel_rfl
-- 38: [6]api.E2
def ty38 : TyX := { desc := .array 6 26, sz := 72, zero := .agg [.ws .u64 6 fun _ => 0, .ws .u64 6 fun _ => 0, .ws .u64 6 fun _ => 0, .ws .u64 6 fun _ => 0, .ws .u64 6 fun _ => 0, .ws .u64 6 fun _ => 0, .ws .u64 6 fun _ => 0, .ws .u64 6 fun _ => 0, .ws .u64 6 fun _ => 0, .ws .u64 6 fun _ => 0, .ws .u64 6 fun _ => 0, .ws .u64 6 fun _ => 0], flat := some (List.replicate 6 (List.replicate 2 (List.replicate 6 [some .u64]).flatten).flatten).flatten }
theorem und38 : Try.prog.underlying 38 = some ty38.desc := by kernel_rfl
theorem siz38 : (Try.prog.info? 38).map (·.size) = some ty38.sz := by kernel_rfl
theorem zer38 : (Try.prog.info? 38).bind (·.zero) = some (ty38.zero.val fun _ => 0) := by kernel_rfl
-- 39: api.E12
def ty39 : TyX := { desc := .array 6 26, sz := 72, zero := .agg [.ws .u64 6 fun _ => 0, .ws .u64 6 fun _ => 0, .ws .u64 6 fun _ => 0, .ws .u64 6 fun _ => 0, .ws .u64 6 fun _ => 0, .ws .u64 6 fun _ => 0, .ws .u64 6 fun _ => 0, .ws .u64 6 fun _ => 0, .ws .u64 6 fun _ => 0, .ws .u64 6 fun _ => 0, .ws .u64 6 fun _ => 0, .ws .u64 6 fun _ => 0], flat := some (List.replicate 6 (List.replicate 2 (List.replicate 6 [some .u64]).flatten).flatten).flatten }
theorem und39 : Try.prog.underlying 39 = some ty39.desc := by kernel_rfl
theorem siz39 : (Try.prog.info? 39).map (·.size) = some ty39.sz := by kernel_rfl
theorem zer39 : (Try.prog.info? 39).bind (·.zero) = some (ty39.zero.val fun _ => 0) := by kernel_rfl
-- 54: struct { N api.Num; Less uint64; Square api.Num }
def ty54 : TyX := { desc := .struct #[{ name := "N", type := 24, offset := 0, embedded := false, tag := "", pkgPath := "", byteOffset := 0 }, { name := "Less", type := 22, offset := 6, embedded := false, tag := "", pkgPath := "", byteOffset := 48 }, { name := "Square", type := 24, offset := 7, embedded := false, tag := "", pkgPath := "", byteOffset := 56 }], sz := 13, zero := .agg [.ws .u64 6 fun _ => 0, .one (.w .u64 0), .ws .u64 6 fun _ => 0], flat := some ((List.replicate 6 [some .u64]).flatten ++ ([some .u64] ++ ((List.replicate 6 [some .u64]).flatten ++ []))) }
theorem und54 : Try.prog.underlying 54 = some ty54.desc := by kernel_rfl
theorem siz54 : (Try.prog.info? 54).map (·.size) = some ty54.sz := by kernel_rfl
theorem zer54 : (Try.prog.info? 54).bind (·.zero) = some (ty54.zero.val fun _ => 0) := by kernel_rfl
-- 55: reliquaryref02.Fast
def ty55 : TyX := { desc := .struct #[{ name := "N", type := 24, offset := 0, embedded := false, tag := "", pkgPath := "", byteOffset := 0 }, { name := "Less", type := 22, offset := 6, embedded := false, tag := "", pkgPath := "", byteOffset := 48 }, { name := "Square", type := 24, offset := 7, embedded := false, tag := "", pkgPath := "", byteOffset := 56 }], sz := 13, zero := .agg [.ws .u64 6 fun _ => 0, .one (.w .u64 0), .ws .u64 6 fun _ => 0], flat := some ((List.replicate 6 [some .u64]).flatten ++ ([some .u64] ++ ((List.replicate 6 [some .u64]).flatten ++ []))) }
theorem und55 : Try.prog.underlying 55 = some ty55.desc := by kernel_rfl
theorem siz55 : (Try.prog.info? 55).map (·.size) = some ty55.sz := by kernel_rfl
theorem zer55 : (Try.prog.info? 55).bind (·.zero) = some (ty55.zero.val fun _ => 0) := by kernel_rfl
-- 59: mont.El
def ty59 : TyX := { desc := .array 6 22, sz := 6, zero := .agg [.ws .u64 6 fun _ => 0], flat := some (List.replicate 6 [some .u64]).flatten }
theorem und59 : Try.prog.underlying 59 = some ty59.desc := by kernel_rfl
theorem siz59 : (Try.prog.info? 59).map (·.size) = some ty59.sz := by kernel_rfl
theorem zer59 : (Try.prog.info? 59).bind (·.zero) = some (ty59.zero.val fun _ => 0) := by kernel_rfl
-- 60: [2]mont.El
def ty60 : TyX := { desc := .array 2 59, sz := 12, zero := .agg [.ws .u64 6 fun _ => 0, .ws .u64 6 fun _ => 0], flat := some (List.replicate 2 (List.replicate 6 [some .u64]).flatten).flatten }
theorem und60 : Try.prog.underlying 60 = some ty60.desc := by kernel_rfl
theorem siz60 : (Try.prog.info? 60).map (·.size) = some ty60.sz := by kernel_rfl
theorem zer60 : (Try.prog.info? 60).bind (·.zero) = some (ty60.zero.val fun _ => 0) := by kernel_rfl
-- 61: mont.F2
def ty61 : TyX := { desc := .array 2 59, sz := 12, zero := .agg [.ws .u64 6 fun _ => 0, .ws .u64 6 fun _ => 0], flat := some (List.replicate 2 (List.replicate 6 [some .u64]).flatten).flatten }
theorem und61 : Try.prog.underlying 61 = some ty61.desc := by kernel_rfl
theorem siz61 : (Try.prog.info? 61).map (·.size) = some ty61.sz := by kernel_rfl
theorem zer61 : (Try.prog.info? 61).bind (·.zero) = some (ty61.zero.val fun _ => 0) := by kernel_rfl
-- 76: [6]mont.F2
def ty76 : TyX := { desc := .array 6 61, sz := 72, zero := .agg [.ws .u64 6 fun _ => 0, .ws .u64 6 fun _ => 0, .ws .u64 6 fun _ => 0, .ws .u64 6 fun _ => 0, .ws .u64 6 fun _ => 0, .ws .u64 6 fun _ => 0, .ws .u64 6 fun _ => 0, .ws .u64 6 fun _ => 0, .ws .u64 6 fun _ => 0, .ws .u64 6 fun _ => 0, .ws .u64 6 fun _ => 0, .ws .u64 6 fun _ => 0], flat := some (List.replicate 6 (List.replicate 2 (List.replicate 6 [some .u64]).flatten).flatten).flatten }
theorem und76 : Try.prog.underlying 76 = some ty76.desc := by kernel_rfl
theorem siz76 : (Try.prog.info? 76).map (·.size) = some ty76.sz := by kernel_rfl
theorem zer76 : (Try.prog.info? 76).bind (·.zero) = some (ty76.zero.val fun _ => 0) := by kernel_rfl
-- 77: mont.F12
def ty77 : TyX := { desc := .array 6 61, sz := 72, zero := .agg [.ws .u64 6 fun _ => 0, .ws .u64 6 fun _ => 0, .ws .u64 6 fun _ => 0, .ws .u64 6 fun _ => 0, .ws .u64 6 fun _ => 0, .ws .u64 6 fun _ => 0, .ws .u64 6 fun _ => 0, .ws .u64 6 fun _ => 0, .ws .u64 6 fun _ => 0, .ws .u64 6 fun _ => 0, .ws .u64 6 fun _ => 0, .ws .u64 6 fun _ => 0], flat := some (List.replicate 6 (List.replicate 2 (List.replicate 6 [some .u64]).flatten).flatten).flatten }
theorem und77 : Try.prog.underlying 77 = some ty77.desc := by kernel_rfl
theorem siz77 : (Try.prog.info? 77).map (·.size) = some ty77.sz := by kernel_rfl
theorem zer77 : (Try.prog.info? 77).bind (·.zero) = some (ty77.zero.val fun _ => 0) := by kernel_rfl
-- 80: [11]api.E2
def ty80 : TyX := { desc := .array 11 26, sz := 132, zero := .agg [.ws .u64 6 fun _ => 0, .ws .u64 6 fun _ => 0, .ws .u64 6 fun _ => 0, .ws .u64 6 fun _ => 0, .ws .u64 6 fun _ => 0, .ws .u64 6 fun _ => 0, .ws .u64 6 fun _ => 0, .ws .u64 6 fun _ => 0, .ws .u64 6 fun _ => 0, .ws .u64 6 fun _ => 0, .ws .u64 6 fun _ => 0, .ws .u64 6 fun _ => 0, .ws .u64 6 fun _ => 0, .ws .u64 6 fun _ => 0, .ws .u64 6 fun _ => 0, .ws .u64 6 fun _ => 0, .ws .u64 6 fun _ => 0, .ws .u64 6 fun _ => 0, .ws .u64 6 fun _ => 0, .ws .u64 6 fun _ => 0, .ws .u64 6 fun _ => 0, .ws .u64 6 fun _ => 0], flat := some (List.replicate 11 (List.replicate 2 (List.replicate 6 [some .u64]).flatten).flatten).flatten }
theorem und80 : Try.prog.underlying 80 = some ty80.desc := by kernel_rfl
theorem siz80 : (Try.prog.info? 80).map (·.size) = some ty80.sz := by kernel_rfl
theorem zer80 : (Try.prog.info? 80).bind (·.zero) = some (ty80.zero.val fun _ => 0) := by kernel_rfl
-- 96: [7]uint64
def ty96 : TyX := { desc := .array 7 22, sz := 7, zero := .agg [.ws .u64 7 fun _ => 0], flat := some (List.replicate 7 [some .u64]).flatten }
theorem und96 : Try.prog.underlying 96 = some ty96.desc := by kernel_rfl
theorem siz96 : (Try.prog.info? 96).map (·.size) = some ty96.sz := by kernel_rfl
theorem zer96 : (Try.prog.info? 96).bind (·.zero) = some (ty96.zero.val fun _ => 0) := by kernel_rfl
-- 98: []uint64
def ty98 : TyX := { desc := .slice 22, sz := 1, zero := .sc ((.rw (.slice none 0 0))), flat := none }
theorem und98 : Try.prog.underlying 98 = some ty98.desc := by kernel_rfl
theorem siz98 : (Try.prog.info? 98).map (·.size) = some ty98.sz := by kernel_rfl
theorem zer98 : (Try.prog.info? 98).bind (·.zero) = some (ty98.zero.val fun _ => 0) := by kernel_rfl
-- 99: [3]mont.F2
def ty99 : TyX := { desc := .array 3 61, sz := 36, zero := .agg [.ws .u64 6 fun _ => 0, .ws .u64 6 fun _ => 0, .ws .u64 6 fun _ => 0, .ws .u64 6 fun _ => 0, .ws .u64 6 fun _ => 0, .ws .u64 6 fun _ => 0], flat := some (List.replicate 3 (List.replicate 2 (List.replicate 6 [some .u64]).flatten).flatten).flatten }
theorem und99 : Try.prog.underlying 99 = some ty99.desc := by kernel_rfl
theorem siz99 : (Try.prog.info? 99).map (·.size) = some ty99.sz := by kernel_rfl
theorem zer99 : (Try.prog.info? 99).bind (·.zero) = some (ty99.zero.val fun _ => 0) := by kernel_rfl
-- 100: mont.six
def ty100 : TyX := { desc := .array 3 61, sz := 36, zero := .agg [.ws .u64 6 fun _ => 0, .ws .u64 6 fun _ => 0, .ws .u64 6 fun _ => 0, .ws .u64 6 fun _ => 0, .ws .u64 6 fun _ => 0, .ws .u64 6 fun _ => 0], flat := some (List.replicate 3 (List.replicate 2 (List.replicate 6 [some .u64]).flatten).flatten).flatten }
theorem und100 : Try.prog.underlying 100 = some ty100.desc := by kernel_rfl
theorem siz100 : (Try.prog.info? 100).map (·.size) = some ty100.sz := by kernel_rfl
theorem zer100 : (Try.prog.info? 100).bind (·.zero) = some (ty100.zero.val fun _ => 0) := by kernel_rfl
-- 110: [8]uint64
def ty110 : TyX := { desc := .array 8 22, sz := 8, zero := .agg [.ws .u64 8 fun _ => 0], flat := some (List.replicate 8 [some .u64]).flatten }
theorem und110 : Try.prog.underlying 110 = some ty110.desc := by kernel_rfl
theorem siz110 : (Try.prog.info? 110).map (·.size) = some ty110.sz := by kernel_rfl
theorem zer110 : (Try.prog.info? 110).bind (·.zero) = some (ty110.zero.val fun _ => 0) := by kernel_rfl
-- 112: *[8]uint64
def ty112 : TyX := { desc := .pointer 110, sz := 1, zero := .sc ((.rw (.pointer none))), flat := none }
theorem und112 : Try.prog.underlying 112 = some ty112.desc := by kernel_rfl
theorem siz112 : (Try.prog.info? 112).map (·.size) = some ty112.sz := by kernel_rfl
theorem zer112 : (Try.prog.info? 112).bind (·.zero) = some (ty112.zero.val fun _ => 0) := by kernel_rfl
-- 113: uint
def ty113 : TyX := { desc := .int .u64, sz := 1, zero := .sc ((.w .u64 0)), flat := none }
theorem und113 : Try.prog.underlying 113 = some ty113.desc := by kernel_rfl
theorem siz113 : (Try.prog.info? 113).map (·.size) = some ty113.sz := by kernel_rfl
theorem zer113 : (Try.prog.info? 113).bind (·.zero) = some (ty113.zero.val fun _ => 0) := by kernel_rfl
-- 119: [0]*runtime.PanicNilError
def ty119 : TyX := { desc := .array 0 16, sz := 0, zero := .agg [], flat := none }
theorem und119 : Try.prog.underlying 119 = some ty119.desc := by kernel_rfl
theorem siz119 : (Try.prog.info? 119).map (·.size) = some ty119.sz := by kernel_rfl
theorem zer119 : (Try.prog.info? 119).bind (·.zero) = some (ty119.zero.val fun _ => 0) := by kernel_rfl
-- 123: uint32
def ty123 : TyX := { desc := .int .u32, sz := 1, zero := .sc ((.w .u32 0)), flat := none }
theorem und123 : Try.prog.underlying 123 = some ty123.desc := by kernel_rfl
theorem siz123 : (Try.prog.info? 123).map (·.size) = some ty123.sz := by kernel_rfl
theorem zer123 : (Try.prog.info? 123).bind (·.zero) = some (ty123.zero.val fun _ => 0) := by kernel_rfl
-- 127: *uint8
def ty127 : TyX := { desc := .pointer 5, sz := 1, zero := .sc ((.rw (.pointer none))), flat := none }
theorem und127 : Try.prog.underlying 127 = some ty127.desc := by kernel_rfl
theorem siz127 : (Try.prog.info? 127).map (·.size) = some ty127.sz := by kernel_rfl
theorem zer127 : (Try.prog.info? 127).bind (·.zero) = some (ty127.zero.val fun _ => 0) := by kernel_rfl
theorem eq22 : EqOk Try.prog 1 22 false [some .u64] := eqOk_int und22 siz22
theorem eq23 : EqOk Try.prog 2 23 true (List.replicate 6 [some .u64]).flatten := eqOk_arr (n := 6) eq22 und23 siz23 siz22
theorem eq24 : EqOk Try.prog 2 24 true (List.replicate 6 [some .u64]).flatten := eqOk_arr (n := 6) eq22 und24 siz24 siz22
theorem eq59 : EqOk Try.prog 2 59 true (List.replicate 6 [some .u64]).flatten := eqOk_arr (n := 6) eq22 und59 siz59 siz22
theorem eq96 : EqOk Try.prog 2 96 true (List.replicate 7 [some .u64]).flatten := eqOk_arr (n := 7) eq22 und96 siz96 siz22
theorem eq110 : EqOk Try.prog 2 110 true (List.replicate 8 [some .u64]).flatten := eqOk_arr (n := 8) eq22 und110 siz110 siz22
theorem eq25 : EqOk Try.prog 3 25 true (List.replicate 2 (List.replicate 6 [some .u64]).flatten).flatten := eqOk_arr (n := 2) eq24 und25 siz25 siz24
theorem eq26 : EqOk Try.prog 3 26 true (List.replicate 2 (List.replicate 6 [some .u64]).flatten).flatten := eqOk_arr (n := 2) eq24 und26 siz26 siz24
theorem eq54 : EqOk Try.prog 3 54 true ((List.replicate 6 [some .u64]).flatten ++ ([some .u64] ++ ((List.replicate 6 [some .u64]).flatten ++ []))) := eqOk_struct (D := 2) (fs := match ty54.desc with | .struct fs => fs | _ => #[]) (.cons (by decide) rfl (eq24.mono (by decide)) <| .cons (by decide) rfl (eq22.mono (by decide)) <| .cons (by decide) rfl (eq24.mono (by decide)) <| .nil _) und54 siz54 (by kernel_rfl)
theorem eq55 : EqOk Try.prog 3 55 true ((List.replicate 6 [some .u64]).flatten ++ ([some .u64] ++ ((List.replicate 6 [some .u64]).flatten ++ []))) := eqOk_struct (D := 2) (fs := match ty55.desc with | .struct fs => fs | _ => #[]) (.cons (by decide) rfl (eq24.mono (by decide)) <| .cons (by decide) rfl (eq22.mono (by decide)) <| .cons (by decide) rfl (eq24.mono (by decide)) <| .nil _) und55 siz55 (by kernel_rfl)
theorem eq60 : EqOk Try.prog 3 60 true (List.replicate 2 (List.replicate 6 [some .u64]).flatten).flatten := eqOk_arr (n := 2) eq59 und60 siz60 siz59
theorem eq61 : EqOk Try.prog 3 61 true (List.replicate 2 (List.replicate 6 [some .u64]).flatten).flatten := eqOk_arr (n := 2) eq59 und61 siz61 siz59
theorem eq38 : EqOk Try.prog 4 38 true (List.replicate 6 (List.replicate 2 (List.replicate 6 [some .u64]).flatten).flatten).flatten := eqOk_arr (n := 6) eq26 und38 siz38 siz26
theorem eq39 : EqOk Try.prog 4 39 true (List.replicate 6 (List.replicate 2 (List.replicate 6 [some .u64]).flatten).flatten).flatten := eqOk_arr (n := 6) eq26 und39 siz39 siz26
theorem eq76 : EqOk Try.prog 4 76 true (List.replicate 6 (List.replicate 2 (List.replicate 6 [some .u64]).flatten).flatten).flatten := eqOk_arr (n := 6) eq61 und76 siz76 siz61
theorem eq77 : EqOk Try.prog 4 77 true (List.replicate 6 (List.replicate 2 (List.replicate 6 [some .u64]).flatten).flatten).flatten := eqOk_arr (n := 6) eq61 und77 siz77 siz61
theorem eq80 : EqOk Try.prog 4 80 true (List.replicate 11 (List.replicate 2 (List.replicate 6 [some .u64]).flatten).flatten).flatten := eqOk_arr (n := 11) eq26 und80 siz80 siz26
theorem eq99 : EqOk Try.prog 4 99 true (List.replicate 3 (List.replicate 2 (List.replicate 6 [some .u64]).flatten).flatten).flatten := eqOk_arr (n := 3) eq61 und99 siz99 siz61
theorem eq100 : EqOk Try.prog 4 100 true (List.replicate 3 (List.replicate 2 (List.replicate 6 [some .u64]).flatten).flatten).flatten := eqOk_arr (n := 3) eq61 und100 siz100 siz61
def ttL : List (Option TyX) := [none, none, some ty2, some ty3, some ty4, some ty5, none, none, none, some ty9, none, none, some ty12, none, none, none, none, none, none, none, none, none, some ty22, some ty23, some ty24, some ty25, some ty26, none, none, some ty29, none, none, none, none, none, none, none, none, some ty38, some ty39, none, none, none, none, none, none, none, none, none, none, none, none, none, none, some ty54, some ty55, none, none, none, some ty59, some ty60, some ty61, none, none, none, none, none, none, none, none, none, none, none, none, none, none, some ty76, some ty77, none, none, some ty80, none, none, none, none, none, none, none, none, none, none, none, none, none, none, none, some ty96, none, some ty98, some ty99, some ty100, none, none, none, none, none, none, none, none, none, some ty110, none, some ty112, some ty113, none, none, none, none, none, some ty119, none, none, none, some ty123, none, none, none, some ty127, none, none, none, none, none]
def tt : TT := nthO ttL
theorem tt_ok : TTOk Try.prog tt := ttOk_of (l := ttL) (
  ⟨⟨und2, siz2, zer2, zok_of (by kernel_rfl), (fun sk h => by cases h), by kernel_rfl, by kernel_rfl⟩,
  ⟨⟨und3, siz3, zer3, zok_of (by kernel_rfl), (fun sk h => by cases h), by kernel_rfl, by kernel_rfl⟩,
  ⟨⟨und4, siz4, zer4, zok_of (by kernel_rfl), (fun sk h => by cases h), by kernel_rfl, by kernel_rfl⟩,
  ⟨⟨und5, siz5, zer5, zok_of (by kernel_rfl), (fun sk h => by cases h), by kernel_rfl, by kernel_rfl⟩,
  ⟨⟨und9, siz9, zer9, zok_of (by kernel_rfl), (fun sk h => by cases h), by kernel_rfl, by kernel_rfl⟩,
  ⟨⟨und12, siz12, zer12, zok_of (by kernel_rfl), (fun sk h => by cases h), by kernel_rfl, by kernel_rfl⟩,
  ⟨⟨und22, siz22, zer22, zok_of (by kernel_rfl), (fun sk h => by cases h), by kernel_rfl, by kernel_rfl⟩,
  ⟨⟨und23, siz23, zer23, zok_of (by kernel_rfl), (fun sk h => by cases h; exact ⟨by kernel_rfl, eq23.mono (by decide)⟩), by kernel_rfl, by kernel_rfl⟩,
  ⟨⟨und24, siz24, zer24, zok_of (by kernel_rfl), (fun sk h => by cases h; exact ⟨by kernel_rfl, eq24.mono (by decide)⟩), by kernel_rfl, by kernel_rfl⟩,
  ⟨⟨und25, siz25, zer25, zok_of (by kernel_rfl), (fun sk h => by cases h; exact ⟨by kernel_rfl, eq25.mono (by decide)⟩), by kernel_rfl, by kernel_rfl⟩,
  ⟨⟨und26, siz26, zer26, zok_of (by kernel_rfl), (fun sk h => by cases h; exact ⟨by kernel_rfl, eq26.mono (by decide)⟩), by kernel_rfl, by kernel_rfl⟩,
  ⟨⟨und29, siz29, zer29, zok_of (by kernel_rfl), (fun sk h => by cases h), by kernel_rfl, by kernel_rfl⟩,
  ⟨⟨und38, siz38, zer38, zok_of (by kernel_rfl), (fun sk h => by cases h; exact ⟨by kernel_rfl, eq38.mono (by decide)⟩), by kernel_rfl, by kernel_rfl⟩,
  ⟨⟨und39, siz39, zer39, zok_of (by kernel_rfl), (fun sk h => by cases h; exact ⟨by kernel_rfl, eq39.mono (by decide)⟩), by kernel_rfl, by kernel_rfl⟩,
  ⟨⟨und54, siz54, zer54, zok_of (by kernel_rfl), (fun sk h => by cases h; exact ⟨by kernel_rfl, eq54.mono (by decide)⟩), by kernel_rfl, by kernel_rfl⟩,
  ⟨⟨und55, siz55, zer55, zok_of (by kernel_rfl), (fun sk h => by cases h; exact ⟨by kernel_rfl, eq55.mono (by decide)⟩), by kernel_rfl, by kernel_rfl⟩,
  ⟨⟨und59, siz59, zer59, zok_of (by kernel_rfl), (fun sk h => by cases h; exact ⟨by kernel_rfl, eq59.mono (by decide)⟩), by kernel_rfl, by kernel_rfl⟩,
  ⟨⟨und60, siz60, zer60, zok_of (by kernel_rfl), (fun sk h => by cases h; exact ⟨by kernel_rfl, eq60.mono (by decide)⟩), by kernel_rfl, by kernel_rfl⟩,
  ⟨⟨und61, siz61, zer61, zok_of (by kernel_rfl), (fun sk h => by cases h; exact ⟨by kernel_rfl, eq61.mono (by decide)⟩), by kernel_rfl, by kernel_rfl⟩,
  ⟨⟨und76, siz76, zer76, zok_of (by kernel_rfl), (fun sk h => by cases h; exact ⟨by kernel_rfl, eq76.mono (by decide)⟩), by kernel_rfl, by kernel_rfl⟩,
  ⟨⟨und77, siz77, zer77, zok_of (by kernel_rfl), (fun sk h => by cases h; exact ⟨by kernel_rfl, eq77.mono (by decide)⟩), by kernel_rfl, by kernel_rfl⟩,
  ⟨⟨und80, siz80, zer80, zok_of (by kernel_rfl), (fun sk h => by cases h; exact ⟨by kernel_rfl, eq80.mono (by decide)⟩), by kernel_rfl, by kernel_rfl⟩,
  ⟨⟨und96, siz96, zer96, zok_of (by kernel_rfl), (fun sk h => by cases h; exact ⟨by kernel_rfl, eq96.mono (by decide)⟩), by kernel_rfl, by kernel_rfl⟩,
  ⟨⟨und98, siz98, zer98, zok_of (by kernel_rfl), (fun sk h => by cases h), by kernel_rfl, by kernel_rfl⟩,
  ⟨⟨und99, siz99, zer99, zok_of (by kernel_rfl), (fun sk h => by cases h; exact ⟨by kernel_rfl, eq99.mono (by decide)⟩), by kernel_rfl, by kernel_rfl⟩,
  ⟨⟨und100, siz100, zer100, zok_of (by kernel_rfl), (fun sk h => by cases h; exact ⟨by kernel_rfl, eq100.mono (by decide)⟩), by kernel_rfl, by kernel_rfl⟩,
  ⟨⟨und110, siz110, zer110, zok_of (by kernel_rfl), (fun sk h => by cases h; exact ⟨by kernel_rfl, eq110.mono (by decide)⟩), by kernel_rfl, by kernel_rfl⟩,
  ⟨⟨und112, siz112, zer112, zok_of (by kernel_rfl), (fun sk h => by cases h), by kernel_rfl, by kernel_rfl⟩,
  ⟨⟨und113, siz113, zer113, zok_of (by kernel_rfl), (fun sk h => by cases h), by kernel_rfl, by kernel_rfl⟩,
  ⟨⟨und119, siz119, zer119, zok_of (by kernel_rfl), (fun sk h => by cases h), by kernel_rfl, by kernel_rfl⟩,
  ⟨⟨und123, siz123, zer123, zok_of (by kernel_rfl), (fun sk h => by cases h), by kernel_rfl, by kernel_rfl⟩,
  ⟨⟨und127, siz127, zer127, zok_of (by kernel_rfl), (fun sk h => by cases h), by kernel_rfl, by kernel_rfl⟩,
  trivial⟩⟩⟩⟩⟩⟩⟩⟩⟩⟩⟩⟩⟩⟩⟩⟩⟩⟩⟩⟩⟩⟩⟩⟩⟩⟩⟩⟩⟩⟩⟩⟩)
theorem mixed : Try.prog.follows .mixedOrders = true := Checked.mixed Try.checked
end Go.Proofs.Ytkmfiefnaeikdaa
