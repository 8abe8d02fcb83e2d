/- The table of types of this seat's translation, and that it is the program's: written by a program of ours. -/
import Derived.Test.YtnjocbcjejpklaaChecked
import Derived.Test.YtnjocbcjejpklaaFw
namespace Go.Proofs.Ytnjocbcjejpklaa
open Go.Rq Go

-- 2: int64
def ty2 : TyX := { desc := .int .i64, sz := 1, zero := .sc ((.it 0)), flat := none }
theorem und2 : Try.prog.underlying 2 = some ty2.desc := by kernel_rfl
theorem siz2 : (Try.prog.info? 2).map (·.size) = some ty2.sz := by kernel_rfl
theorem zer2 : (Try.prog.info? 2).bind (·.zero) = some (ty2.zero.val fun _ => 0) := by kernel_rfl
-- 3: int
def ty3 : TyX := { desc := .int .i64, sz := 1, zero := .sc ((.it 0)), flat := none }
theorem und3 : Try.prog.underlying 3 = some ty3.desc := by kernel_rfl
theorem siz3 : (Try.prog.info? 3).map (·.size) = some ty3.sz := by kernel_rfl
theorem zer3 : (Try.prog.info? 3).bind (·.zero) = some (ty3.zero.val fun _ => 0) := by kernel_rfl
-- 4: bool
def ty4 : TyX := { desc := .bool, sz := 1, zero := .sc ((.bo false)), flat := none }
theorem und4 : Try.prog.underlying 4 = some ty4.desc := by kernel_rfl
theorem siz4 : (Try.prog.info? 4).map (·.size) = some ty4.sz := by kernel_rfl
theorem zer4 : (Try.prog.info? 4).bind (·.zero) = some (ty4.zero.val fun _ => 0) := by kernel_rfl
-- 5: uint8
def ty5 : TyX := { desc := .int .u8, sz := 1, zero := .sc ((.w .u8 0)), flat := none }
theorem und5 : Try.prog.underlying 5 = some ty5.desc := by kernel_rfl
theorem siz5 : (Try.prog.info? 5).map (·.size) = some ty5.sz := by kernel_rfl
theorem zer5 : (Try.prog.info? 5).bind (·.zero) = some (ty5.zero.val fun _ => 0) := by kernel_rfl
-- 9: string
def ty9 : TyX := { desc := .string, sz := 1, zero := .sc ((.str 0 fun _ => 0)), flat := none }
theorem und9 : Try.prog.underlying 9 = some ty9.desc := by kernel_rfl
theorem siz9 : (Try.prog.info? 9).map (·.size) = some ty9.sz := by kernel_rfl
theorem zer9 : (Try.prog.info? 9).bind (·.zero) = some (ty9.zero.val fun _ => 0) := by kernel_rfl
-- 12: uintptr
def ty12 : TyX := { desc := .int .u64, sz := 1, zero := .sc ((.w .u64 0)), flat := none }
theorem und12 : Try.prog.underlying 12 = some ty12.desc := by kernel_rfl
theorem siz12 : (Try.prog.info? 12).map (·.size) = some ty12.sz := by kernel_rfl
theorem zer12 : (Try.prog.info? 12).bind (·.zero) = some (ty12.zero.val fun _ => 0) := by kernel_rfl
-- 22: uint64
def ty22 : TyX := { desc := .int .u64, sz := 1, zero := .sc ((.w .u64 0)), flat := none }
theorem und22 : Try.prog.underlying 22 = some ty22.desc := by kernel_rfl
theorem siz22 : (Try.prog.info? 22).map (·.size) = some ty22.sz := by kernel_rfl
theorem zer22 : (Try.prog.info? 22).bind (·.zero) = some (ty22.zero.val fun _ => 0) := by kernel_rfl
-- 23: [6]uint64
def ty23 : TyX := { desc := .array 6 22, sz := 6, zero := .agg [.ws .u64 6 fun _ => 0], flat := some (List.replicate 6 [some .u64]).flatten }
theorem und23 : Try.prog.underlying 23 = some ty23.desc := by kernel_rfl
theorem siz23 : (Try.prog.info? 23).map (·.size) = some ty23.sz := by kernel_rfl
theorem zer23 : (Try.prog.info? 23).bind (·.zero) = some (ty23.zero.val fun _ => 0) := by kernel_rfl
-- 24: api.Num
def ty24 : TyX := { desc := .array 6 22, sz := 6, zero := .agg [.ws .u64 6 fun _ => 0], flat := some (List.replicate 6 [some .u64]).flatten }
theorem und24 : Try.prog.underlying 24 = some ty24.desc := by kernel_rfl
theorem siz24 : (Try.prog.info? 24).map (·.size) = some ty24.sz := by kernel_rfl
theorem zer24 : (Try.prog.info? 24).bind (·.zero) = some (ty24.zero.val fun _ => 0) := by kernel_rfl
-- 25: [2]api.Num
def ty25 : TyX := { desc := .array 2 24, sz := 12, zero := .agg [.ws .u64 6 fun _ => 0, .ws .u64 6 fun _ => 0], flat := some (List.replicate 2 (List.replicate 6 [some .u64]).flatten).flatten }
theorem und25 : Try.prog.underlying 25 = some ty25.desc := by kernel_rfl
theorem siz25 : (Try.prog.info? 25).map (·.size) = some ty25.sz := by kernel_rfl
theorem zer25 : (Try.prog.info? 25).bind (·.zero) = some (ty25.zero.val fun _ => 0) := by kernel_rfl
-- 26: api.E2
def ty26 : TyX := { desc := .array 2 24, sz := 12, zero := .agg [.ws .u64 6 fun _ => 0, .ws .u64 6 fun _ => 0], flat := some (List.replicate 2 (List.replicate 6 [some .u64]).flatten).flatten }
theorem und26 : Try.prog.underlying 26 = some ty26.desc := by kernel_rfl
theorem siz26 : (Try.prog.info? 26).map (·.size) = some ty26.sz := by kernel_rfl
theorem zer26 : (Try.prog.info? 26).bind (·.zero) = some (ty26.zero.val fun _ => 0) := by kernel_rfl
-- 27: [6]api.E2
def ty27 : TyX := { desc := .array 6 26, sz := 72, zero := .agg [.ws .u64 6 fun _ => 0, .ws .u64 6 fun _ => 0, .ws .u64 6 fun _ => 0, .ws .u64 6 fun _ => 0, .ws .u64 6 fun _ => 0, .ws .u64 6 fun _ => 0, .ws .u64 6 fun _ => 0, .ws .u64 6 fun _ => 0, .ws .u64 6 fun _ => 0, .ws .u64 6 fun _ => 0, .ws .u64 6 fun _ => 0, .ws .u64 6 fun _ => 0], flat := some (List.replicate 6 (List.replicate 2 (List.replicate 6 [some .u64]).flatten).flatten).flatten }
theorem und27 : Try.prog.underlying 27 = some ty27.desc := by kernel_rfl
theorem siz27 : (Try.prog.info? 27).map (·.size) = some ty27.sz := by kernel_rfl
theorem zer27 : (Try.prog.info? 27).bind (·.zero) = some (ty27.zero.val fun _ => 0) := by kernel_rfl
-- 28: api.E12
def ty28 : TyX := { desc := .array 6 26, sz := 72, zero := .agg [.ws .u64 6 fun _ => 0, .ws .u64 6 fun _ => 0, .ws .u64 6 fun _ => 0, .ws .u64 6 fun _ => 0, .ws .u64 6 fun _ => 0, .ws .u64 6 fun _ => 0, .ws .u64 6 fun _ => 0, .ws .u64 6 fun _ => 0, .ws .u64 6 fun _ => 0, .ws .u64 6 fun _ => 0, .ws .u64 6 fun _ => 0, .ws .u64 6 fun _ => 0], flat := some (List.replicate 6 (List.replicate 2 (List.replicate 6 [some .u64]).flatten).flatten).flatten }
theorem und28 : Try.prog.underlying 28 = some ty28.desc := by kernel_rfl
theorem siz28 : (Try.prog.info? 28).map (·.size) = some ty28.sz := by kernel_rfl
theorem zer28 : (Try.prog.info? 28).bind (·.zero) = some (ty28.zero.val fun _ => 0) := by kernel_rfl
-- 30: api.Errno
def ty30 : TyX := { desc := .int .i64, sz := 1, zero := .sc ((.it 0)), flat := none }
theorem und30 : Try.prog.underlying 30 = some ty30.desc := by kernel_rfl
theorem siz30 : (Try.prog.info? 30).map (·.size) = some ty30.sz := by kernel_rfl
theorem zer30 : (Try.prog.info? 30).bind (·.zero) = some (ty30.zero.val fun _ => 0) := by kernel_rfl
-- 36: []api.P1
def ty36 : TyX := { desc := .slice 41, sz := 1, zero := .sc ((.rw (.slice none 0 0))), flat := none }
theorem und36 : Try.prog.underlying 36 = some ty36.desc := by kernel_rfl
theorem siz36 : (Try.prog.info? 36).map (·.size) = some ty36.sz := by kernel_rfl
theorem zer36 : (Try.prog.info? 36).bind (·.zero) = some (ty36.zero.val fun _ => 0) := by kernel_rfl
-- 37: []api.P2
def ty37 : TyX := { desc := .slice 43, sz := 1, zero := .sc ((.rw (.slice none 0 0))), flat := none }
theorem und37 : Try.prog.underlying 37 = some ty37.desc := by kernel_rfl
theorem siz37 : (Try.prog.info? 37).map (·.size) = some ty37.sz := by kernel_rfl
theorem zer37 : (Try.prog.info? 37).bind (·.zero) = some (ty37.zero.val fun _ => 0) := by kernel_rfl
-- 40: struct { X api.Num; Y api.Num; Zero bool }
def ty40 : TyX := { desc := .struct #[{ name := "X", type := 24, offset := 0, embedded := false, tag := "", pkgPath := "", byteOffset := 0 }, { name := "Y", type := 24, offset := 6, embedded := false, tag := "", pkgPath := "", byteOffset := 48 }, { name := "Zero", type := 4, offset := 12, embedded := false, tag := "", pkgPath := "", byteOffset := 96 }], sz := 13, zero := .agg [.ws .u64 6 fun _ => 0, .ws .u64 6 fun _ => 0, .one (.bo false)], flat := some ((List.replicate 6 [some .u64]).flatten ++ ((List.replicate 6 [some .u64]).flatten ++ ([none] ++ []))) }
theorem und40 : Try.prog.underlying 40 = some ty40.desc := by kernel_rfl
theorem siz40 : (Try.prog.info? 40).map (·.size) = some ty40.sz := by kernel_rfl
theorem zer40 : (Try.prog.info? 40).bind (·.zero) = some (ty40.zero.val fun _ => 0) := by kernel_rfl
-- 41: api.P1
def ty41 : TyX := { desc := .struct #[{ name := "X", type := 24, offset := 0, embedded := false, tag := "", pkgPath := "", byteOffset := 0 }, { name := "Y", type := 24, offset := 6, embedded := false, tag := "", pkgPath := "", byteOffset := 48 }, { name := "Zero", type := 4, offset := 12, embedded := false, tag := "", pkgPath := "", byteOffset := 96 }], sz := 13, zero := .agg [.ws .u64 6 fun _ => 0, .ws .u64 6 fun _ => 0, .one (.bo false)], flat := some ((List.replicate 6 [some .u64]).flatten ++ ((List.replicate 6 [some .u64]).flatten ++ ([none] ++ []))) }
theorem und41 : Try.prog.underlying 41 = some ty41.desc := by kernel_rfl
theorem siz41 : (Try.prog.info? 41).map (·.size) = some ty41.sz := by kernel_rfl
theorem zer41 : (Try.prog.info? 41).bind (·.zero) = some (ty41.zero.val fun _ => 0) := by kernel_rfl
-- 42: struct { X api.E2; Y api.E2; Zero bool }
def ty42 : TyX := { desc := .struct #[{ name := "X", type := 26, offset := 0, embedded := false, tag := "", pkgPath := "", byteOffset := 0 }, { name := "Y", type := 26, offset := 12, embedded := false, tag := "", pkgPath := "", byteOffset := 96 }, { name := "Zero", type := 4, offset := 24, embedded := false, tag := "", pkgPath := "", byteOffset := 192 }], sz := 25, zero := .agg [.ws .u64 6 fun _ => 0, .ws .u64 6 fun _ => 0, .ws .u64 6 fun _ => 0, .ws .u64 6 fun _ => 0, .one (.bo false)], flat := some ((List.replicate 2 (List.replicate 6 [some .u64]).flatten).flatten ++ ((List.replicate 2 (List.replicate 6 [some .u64]).flatten).flatten ++ ([none] ++ []))) }
theorem und42 : Try.prog.underlying 42 = some ty42.desc := by kernel_rfl
theorem siz42 : (Try.prog.info? 42).map (·.size) = some ty42.sz := by kernel_rfl
theorem zer42 : (Try.prog.info? 42).bind (·.zero) = some (ty42.zero.val fun _ => 0) := by kernel_rfl
-- 43: api.P2
def ty43 : TyX := { desc := .struct #[{ name := "X", type := 26, offset := 0, embedded := false, tag := "", pkgPath := "", byteOffset := 0 }, { name := "Y", type := 26, offset := 12, embedded := false, tag := "", pkgPath := "", byteOffset := 96 }, { name := "Zero", type := 4, offset := 24, embedded := false, tag := "", pkgPath := "", byteOffset := 192 }], sz := 25, zero := .agg [.ws .u64 6 fun _ => 0, .ws .u64 6 fun _ => 0, .ws .u64 6 fun _ => 0, .ws .u64 6 fun _ => 0, .one (.bo false)], flat := some ((List.replicate 2 (List.replicate 6 [some .u64]).flatten).flatten ++ ((List.replicate 2 (List.replicate 6 [some .u64]).flatten).flatten ++ ([none] ++ []))) }
theorem und43 : Try.prog.underlying 43 = some ty43.desc := by kernel_rfl
theorem siz43 : (Try.prog.info? 43).map (·.size) = some ty43.sz := by kernel_rfl
theorem zer43 : (Try.prog.info? 43).bind (·.zero) = some (ty43.zero.val fun _ => 0) := by kernel_rfl
-- 45: mont.El
def ty45 : TyX := { desc := .array 6 22, sz := 6, zero := .agg [.ws .u64 6 fun _ => 0], flat := some (List.replicate 6 [some .u64]).flatten }
theorem und45 : Try.prog.underlying 45 = some ty45.desc := by kernel_rfl
theorem siz45 : (Try.prog.info? 45).map (·.size) = some ty45.sz := by kernel_rfl
theorem zer45 : (Try.prog.info? 45).bind (·.zero) = some (ty45.zero.val fun _ => 0) := by kernel_rfl
-- 46: [2]mont.El
def ty46 : TyX := { desc := .array 2 45, sz := 12, zero := .agg [.ws .u64 6 fun _ => 0, .ws .u64 6 fun _ => 0], flat := some (List.replicate 2 (List.replicate 6 [some .u64]).flatten).flatten }
theorem und46 : Try.prog.underlying 46 = some ty46.desc := by kernel_rfl
theorem siz46 : (Try.prog.info? 46).map (·.size) = some ty46.sz := by kernel_rfl
theorem zer46 : (Try.prog.info? 46).bind (·.zero) = some (ty46.zero.val fun _ => 0) := by kernel_rfl
-- 47: mont.F2
def ty47 : TyX := { desc := .array 2 45, sz := 12, zero := .agg [.ws .u64 6 fun _ => 0, .ws .u64 6 fun _ => 0], flat := some (List.replicate 2 (List.replicate 6 [some .u64]).flatten).flatten }
theorem und47 : Try.prog.underlying 47 = some ty47.desc := by kernel_rfl
theorem siz47 : (Try.prog.info? 47).map (·.size) = some ty47.sz := by kernel_rfl
theorem zer47 : (Try.prog.info? 47).bind (·.zero) = some (ty47.zero.val fun _ => 0) := by kernel_rfl
-- 48: [6]mont.F2
def ty48 : TyX := { desc := .array 6 47, sz := 72, zero := .agg [.ws .u64 6 fun _ => 0, .ws .u64 6 fun _ => 0, .ws .u64 6 fun _ => 0, .ws .u64 6 fun _ => 0, .ws .u64 6 fun _ => 0, .ws .u64 6 fun _ => 0, .ws .u64 6 fun _ => 0, .ws .u64 6 fun _ => 0, .ws .u64 6 fun _ => 0, .ws .u64 6 fun _ => 0, .ws .u64 6 fun _ => 0, .ws .u64 6 fun _ => 0], flat := some (List.replicate 6 (List.replicate 2 (List.replicate 6 [some .u64]).flatten).flatten).flatten }
theorem und48 : Try.prog.underlying 48 = some ty48.desc := by kernel_rfl
theorem siz48 : (Try.prog.info? 48).map (·.size) = some ty48.sz := by kernel_rfl
theorem zer48 : (Try.prog.info? 48).bind (·.zero) = some (ty48.zero.val fun _ => 0) := by kernel_rfl
-- 49: mont.F12
def ty49 : TyX := { desc := .array 6 47, sz := 72, zero := .agg [.ws .u64 6 fun _ => 0, .ws .u64 6 fun _ => 0, .ws .u64 6 fun _ => 0, .ws .u64 6 fun _ => 0, .ws .u64 6 fun _ => 0, .ws .u64 6 fun _ => 0, .ws .u64 6 fun _ => 0, .ws .u64 6 fun _ => 0, .ws .u64 6 fun _ => 0, .ws .u64 6 fun _ => 0, .ws .u64 6 fun _ => 0, .ws .u64 6 fun _ => 0], flat := some (List.replicate 6 (List.replicate 2 (List.replicate 6 [some .u64]).flatten).flatten).flatten }
theorem und49 : Try.prog.underlying 49 = some ty49.desc := by kernel_rfl
theorem siz49 : (Try.prog.info? 49).map (·.size) = some ty49.sz := by kernel_rfl
theorem zer49 : (Try.prog.info? 49).bind (·.zero) = some (ty49.zero.val fun _ => 0) := by kernel_rfl
-- 63: []mont.F12
def ty63 : TyX := { desc := .slice 49, sz := 1, zero := .sc ((.rw (.slice none 0 0))), flat := none }
theorem und63 : Try.prog.underlying 63 = some ty63.desc := by kernel_rfl
theorem siz63 : (Try.prog.info? 63).map (·.size) = some ty63.sz := by kernel_rfl
theorem zer63 : (Try.prog.info? 63).bind (·.zero) = some (ty63.zero.val fun _ => 0) := by kernel_rfl
-- 64: [3]mont.F2
def ty64 : TyX := { desc := .array 3 47, sz := 36, zero := .agg [.ws .u64 6 fun _ => 0, .ws .u64 6 fun _ => 0, .ws .u64 6 fun _ => 0, .ws .u64 6 fun _ => 0, .ws .u64 6 fun _ => 0, .ws .u64 6 fun _ => 0], flat := some (List.replicate 3 (List.replicate 2 (List.replicate 6 [some .u64]).flatten).flatten).flatten }
theorem und64 : Try.prog.underlying 64 = some ty64.desc := by kernel_rfl
theorem siz64 : (Try.prog.info? 64).map (·.size) = some ty64.sz := by kernel_rfl
theorem zer64 : (Try.prog.info? 64).bind (·.zero) = some (ty64.zero.val fun _ => 0) := by kernel_rfl
-- 65: mont.six
def ty65 : TyX := { desc := .array 3 47, sz := 36, zero := .agg [.ws .u64 6 fun _ => 0, .ws .u64 6 fun _ => 0, .ws .u64 6 fun _ => 0, .ws .u64 6 fun _ => 0, .ws .u64 6 fun _ => 0, .ws .u64 6 fun _ => 0], flat := some (List.replicate 3 (List.replicate 2 (List.replicate 6 [some .u64]).flatten).flatten).flatten }
theorem und65 : Try.prog.underlying 65 = some ty65.desc := by kernel_rfl
theorem siz65 : (Try.prog.info? 65).map (·.size) = some ty65.sz := by kernel_rfl
theorem zer65 : (Try.prog.info? 65).bind (·.zero) = some (ty65.zero.val fun _ => 0) := by kernel_rfl
-- 71: func(mont.El, mont.El) mont.El
def ty71 : TyX := { desc := .func #[45, 45] #[45] false, sz := 1, zero := .sc ((.rw .nilFunc)), flat := none }
theorem und71 : Try.prog.underlying 71 = some ty71.desc := by kernel_rfl
theorem siz71 : (Try.prog.info? 71).map (·.size) = some ty71.sz := by kernel_rfl
theorem zer71 : (Try.prog.info? 71).bind (·.zero) = some (ty71.zero.val fun _ => 0) := by kernel_rfl
-- 72: func(mont.El) mont.El
def ty72 : TyX := { desc := .func #[45] #[45] false, sz := 1, zero := .sc ((.rw .nilFunc)), flat := none }
theorem und72 : Try.prog.underlying 72 = some ty72.desc := by kernel_rfl
theorem siz72 : (Try.prog.info? 72).map (·.size) = some ty72.sz := by kernel_rfl
theorem zer72 : (Try.prog.info? 72).bind (·.zero) = some (ty72.zero.val fun _ => 0) := by kernel_rfl
-- 73: struct { add func(mont.El, mont.El) mont.El; sub func(mont.El, mont.El) mont.El; mul func(mont.El, mont.El) mont.El; inv func(mont.El) mont.El; one mont.El; b mont.El }
def pkP0 : String := String.ofList ([114,101,108,105,113,117,97,114,121,47,99,117,114,118,101].map Char.ofNat)
def ty73 : TyX := { desc := .struct #[{ name := "add", type := 71, offset := 0, embedded := false, tag := "", pkgPath := pkP0, byteOffset := 0 }, { name := "sub", type := 71, offset := 1, embedded := false, tag := "", pkgPath := pkP0, byteOffset := 8 }, { name := "mul", type := 71, offset := 2, embedded := false, tag := "", pkgPath := pkP0, byteOffset := 16 }, { name := "inv", type := 72, offset := 3, embedded := false, tag := "", pkgPath := pkP0, byteOffset := 24 }, { name := "one", type := 45, offset := 4, embedded := false, tag := "", pkgPath := pkP0, byteOffset := 32 }, { name := "b", type := 45, offset := 10, embedded := false, tag := "", pkgPath := pkP0, byteOffset := 80 }], sz := 16, zero := .agg [.one (.rw .nilFunc), .one (.rw .nilFunc), .one (.rw .nilFunc), .one (.rw .nilFunc), .ws .u64 6 fun _ => 0, .ws .u64 6 fun _ => 0], flat := none }
theorem und73 : Try.prog.underlying 73 = some ty73.desc := by kernel_rfl
theorem siz73 : (Try.prog.info? 73).map (·.size) = some ty73.sz := by kernel_rfl
theorem zer73 : (Try.prog.info? 73).bind (·.zero) = some (ty73.zero.val fun _ => 0) := by kernel_rfl
-- 74: curve.field[reliquary/mont.El]
def ty74 : TyX := { desc := .struct #[{ name := "add", type := 71, offset := 0, embedded := false, tag := "", pkgPath := pkP0, byteOffset := 0 }, { name := "sub", type := 71, offset := 1, embedded := false, tag := "", pkgPath := pkP0, byteOffset := 8 }, { name := "mul", type := 71, offset := 2, embedded := false, tag := "", pkgPath := pkP0, byteOffset := 16 }, { name := "inv", type := 72, offset := 3, embedded := false, tag := "", pkgPath := pkP0, byteOffset := 24 }, { name := "one", type := 45, offset := 4, embedded := false, tag := "", pkgPath := pkP0, byteOffset := 32 }, { name := "b", type := 45, offset := 10, embedded := false, tag := "", pkgPath := pkP0, byteOffset := 80 }], sz := 16, zero := .agg [.one (.rw .nilFunc), .one (.rw .nilFunc), .one (.rw .nilFunc), .one (.rw .nilFunc), .ws .u64 6 fun _ => 0, .ws .u64 6 fun _ => 0], flat := none }
theorem und74 : Try.prog.underlying 74 = some ty74.desc := by kernel_rfl
theorem siz74 : (Try.prog.info? 74).map (·.size) = some ty74.sz := by kernel_rfl
theorem zer74 : (Try.prog.info? 74).bind (·.zero) = some (ty74.zero.val fun _ => 0) := by kernel_rfl
-- 77: struct { x mont.El; y mont.El; zero bool }
def ty77 : TyX := { desc := .struct #[{ name := "x", type := 45, offset := 0, embedded := false, tag := "", pkgPath := pkP0, byteOffset := 0 }, { name := "y", type := 45, offset := 6, embedded := false, tag := "", pkgPath := pkP0, byteOffset := 48 }, { name := "zero", type := 4, offset := 12, embedded := false, tag := "", pkgPath := pkP0, byteOffset := 96 }], sz := 13, zero := .agg [.ws .u64 6 fun _ => 0, .ws .u64 6 fun _ => 0, .one (.bo false)], flat := some ((List.replicate 6 [some .u64]).flatten ++ ((List.replicate 6 [some .u64]).flatten ++ ([none] ++ []))) }
theorem und77 : Try.prog.underlying 77 = some ty77.desc := by kernel_rfl
theorem siz77 : (Try.prog.info? 77).map (·.size) = some ty77.sz := by kernel_rfl
theorem zer77 : (Try.prog.info? 77).bind (·.zero) = some (ty77.zero.val fun _ => 0) := by kernel_rfl
-- 78: curve.plain[reliquary/mont.El]
def ty78 : TyX := { desc := .struct #[{ name := "x", type := 45, offset := 0, embedded := false, tag := "", pkgPath := pkP0, byteOffset := 0 }, { name := "y", type := 45, offset := 6, embedded := false, tag := "", pkgPath := pkP0, byteOffset := 48 }, { name := "zero", type := 4, offset := 12, embedded := false, tag := "", pkgPath := pkP0, byteOffset := 96 }], sz := 13, zero := .agg [.ws .u64 6 fun _ => 0, .ws .u64 6 fun _ => 0, .one (.bo false)], flat := some ((List.replicate 6 [some .u64]).flatten ++ ((List.replicate 6 [some .u64]).flatten ++ ([none] ++ []))) }
theorem und78 : Try.prog.underlying 78 = some ty78.desc := by kernel_rfl
theorem siz78 : (Try.prog.info? 78).map (·.size) = some ty78.sz := by kernel_rfl
theorem zer78 : (Try.prog.info? 78).bind (·.zero) = some (ty78.zero.val fun _ => 0) := by kernel_rfl
-- 80: func(mont.F2, mont.F2) mont.F2
def ty80 : TyX := { desc := .func #[47, 47] #[47] false, sz := 1, zero := .sc ((.rw .nilFunc)), flat := none }
theorem und80 : Try.prog.underlying 80 = some ty80.desc := by kernel_rfl
theorem siz80 : (Try.prog.info? 80).map (·.size) = some ty80.sz := by kernel_rfl
theorem zer80 : (Try.prog.info? 80).bind (·.zero) = some (ty80.zero.val fun _ => 0) := by kernel_rfl
-- 81: func(mont.F2) mont.F2
def ty81 : TyX := { desc := .func #[47] #[47] false, sz := 1, zero := .sc ((.rw .nilFunc)), flat := none }
theorem und81 : Try.prog.underlying 81 = some ty81.desc := by kernel_rfl
theorem siz81 : (Try.prog.info? 81).map (·.size) = some ty81.sz := by kernel_rfl
theorem zer81 : (Try.prog.info? 81).bind (·.zero) = some (ty81.zero.val fun _ => 0) := by kernel_rfl
-- 82: struct { add func(mont.F2, mont.F2) mont.F2; sub func(mont.F2, mont.F2) mont.F2; mul func(mont.F2, mont.F2) mont.F2; inv func(mont.F2) mont.F2; one mont.F2; b mont.F2 }
def ty82 : TyX := { desc := .struct #[{ name := "add", type := 80, offset := 0, embedded := false, tag := "", pkgPath := pkP0, byteOffset := 0 }, { name := "sub", type := 80, offset := 1, embedded := false, tag := "", pkgPath := pkP0, byteOffset := 8 }, { name := "mul", type := 80, offset := 2, embedded := false, tag := "", pkgPath := pkP0, byteOffset := 16 }, { name := "inv", type := 81, offset := 3, embedded := false, tag := "", pkgPath := pkP0, byteOffset := 24 }, { name := "one", type := 47, offset := 4, embedded := false, tag := "", pkgPath := pkP0, byteOffset := 32 }, { name := "b", type := 47, offset := 16, embedded := false, tag := "", pkgPath := pkP0, byteOffset := 128 }], sz := 28, zero := .agg [.one (.rw .nilFunc), .one (.rw .nilFunc), .one (.rw .nilFunc), .one (.rw .nilFunc), .ws .u64 6 fun _ => 0, .ws .u64 6 fun _ => 0, .ws .u64 6 fun _ => 0, .ws .u64 6 fun _ => 0], flat := none }
theorem und82 : Try.prog.underlying 82 = some ty82.desc := by kernel_rfl
theorem siz82 : (Try.prog.info? 82).map (·.size) = some ty82.sz := by kernel_rfl
theorem zer82 : (Try.prog.info? 82).bind (·.zero) = some (ty82.zero.val fun _ => 0) := by kernel_rfl
-- 83: curve.field[reliquary/mont.F2]
def ty83 : TyX := { desc := .struct #[{ name := "add", type := 80, offset := 0, embedded := false, tag := "", pkgPath := pkP0, byteOffset := 0 }, { name := "sub", type := 80, offset := 1, embedded := false, tag := "", pkgPath := pkP0, byteOffset := 8 }, { name := "mul", type := 80, offset := 2, embedded := false, tag := "", pkgPath := pkP0, byteOffset := 16 }, { name := "inv", type := 81, offset := 3, embedded := false, tag := "", pkgPath := pkP0, byteOffset := 24 }, { name := "one", type := 47, offset := 4, embedded := false, tag := "", pkgPath := pkP0, byteOffset := 32 }, { name := "b", type := 47, offset := 16, embedded := false, tag := "", pkgPath := pkP0, byteOffset := 128 }], sz := 28, zero := .agg [.one (.rw .nilFunc), .one (.rw .nilFunc), .one (.rw .nilFunc), .one (.rw .nilFunc), .ws .u64 6 fun _ => 0, .ws .u64 6 fun _ => 0, .ws .u64 6 fun _ => 0, .ws .u64 6 fun _ => 0], flat := none }
theorem und83 : Try.prog.underlying 83 = some ty83.desc := by kernel_rfl
theorem siz83 : (Try.prog.info? 83).map (·.size) = some ty83.sz := by kernel_rfl
theorem zer83 : (Try.prog.info? 83).bind (·.zero) = some (ty83.zero.val fun _ => 0) := by kernel_rfl
-- 86: struct { x mont.F2; y mont.F2; zero bool }
def ty86 : TyX := { desc := .struct #[{ name := "x", type := 47, offset := 0, embedded := false, tag := "", pkgPath := pkP0, byteOffset := 0 }, { name := "y", type := 47, offset := 12, embedded := false, tag := "", pkgPath := pkP0, byteOffset := 96 }, { name := "zero", type := 4, offset := 24, embedded := false, tag := "", pkgPath := pkP0, byteOffset := 192 }], sz := 25, zero := .agg [.ws .u64 6 fun _ => 0, .ws .u64 6 fun _ => 0, .ws .u64 6 fun _ => 0, .ws .u64 6 fun _ => 0, .one (.bo false)], flat := some ((List.replicate 2 (List.replicate 6 [some .u64]).flatten).flatten ++ ((List.replicate 2 (List.replicate 6 [some .u64]).flatten).flatten ++ ([none] ++ []))) }
theorem und86 : Try.prog.underlying 86 = some ty86.desc := by kernel_rfl
theorem siz86 : (Try.prog.info? 86).map (·.size) = some ty86.sz := by kernel_rfl
theorem zer86 : (Try.prog.info? 86).bind (·.zero) = some (ty86.zero.val fun _ => 0) := by kernel_rfl
-- 87: curve.plain[reliquary/mont.F2]
def ty87 : TyX := { desc := .struct #[{ name := "x", type := 47, offset := 0, embedded := false, tag := "", pkgPath := pkP0, byteOffset := 0 }, { name := "y", type := 47, offset := 12, embedded := false, tag := "", pkgPath := pkP0, byteOffset := 96 }, { name := "zero", type := 4, offset := 24, embedded := false, tag := "", pkgPath := pkP0, byteOffset := 192 }], sz := 25, zero := .agg [.ws .u64 6 fun _ => 0, .ws .u64 6 fun _ => 0, .ws .u64 6 fun _ => 0, .ws .u64 6 fun _ => 0, .one (.bo false)], flat := some ((List.replicate 2 (List.replicate 6 [some .u64]).flatten).flatten ++ ((List.replicate 2 (List.replicate 6 [some .u64]).flatten).flatten ++ ([none] ++ []))) }
theorem und87 : Try.prog.underlying 87 = some ty87.desc := by kernel_rfl
theorem siz87 : (Try.prog.info? 87).map (·.size) = some ty87.sz := by kernel_rfl
theorem zer87 : (Try.prog.info? 87).bind (·.zero) = some (ty87.zero.val fun _ => 0) := by kernel_rfl
-- 90: *pairing.walker
def ty90 : TyX := { desc := .pointer 93, sz := 1, zero := .sc ((.rw (.pointer none))), flat := none }
theorem und90 : Try.prog.underlying 90 = some ty90.desc := by kernel_rfl
theorem siz90 : (Try.prog.info? 90).map (·.size) = some ty90.sz := by kernel_rfl
theorem zer90 : (Try.prog.info? 90).bind (·.zero) = some (ty90.zero.val fun _ => 0) := by kernel_rfl
-- 92: struct { px mont.El; py mont.El; qx mont.F2; qy mont.F2; tx mont.F2; ty mont.F2; f mont.F12 }
def pkP1 : String := String.ofList ([114,101,108,105,113,117,97,114,121,47,112,97,105,114,105,110,103].map Char.ofNat)
def ty92 : TyX := { desc := .struct #[{ name := "px", type := 45, offset := 0, embedded := false, tag := "", pkgPath := pkP1, byteOffset := 0 }, { name := "py", type := 45, offset := 6, embedded := false, tag := "", pkgPath := pkP1, byteOffset := 48 }, { name := "qx", type := 47, offset := 12, embedded := false, tag := "", pkgPath := pkP1, byteOffset := 96 }, { name := "qy", type := 47, offset := 24, embedded := false, tag := "", pkgPath := pkP1, byteOffset := 192 }, { name := "tx", type := 47, offset := 36, embedded := false, tag := "", pkgPath := pkP1, byteOffset := 288 }, { name := "ty", type := 47, offset := 48, embedded := false, tag := "", pkgPath := pkP1, byteOffset := 384 }, { name := "f", type := 49, offset := 60, embedded := false, tag := "", pkgPath := pkP1, byteOffset := 480 }], sz := 132, zero := .agg [.ws .u64 6 fun _ => 0, .ws .u64 6 fun _ => 0, .ws .u64 6 fun _ => 0, .ws .u64 6 fun _ => 0, .ws .u64 6 fun _ => 0, .ws .u64 6 fun _ => 0, .ws .u64 6 fun _ => 0, .ws .u64 6 fun _ => 0, .ws .u64 6 fun _ => 0, .ws .u64 6 fun _ => 0, .ws .u64 6 fun _ => 0, .ws .u64 6 fun _ => 0, .ws .u64 6 fun _ => 0, .ws .u64 6 fun _ => 0, .ws .u64 6 fun _ => 0, .ws .u64 6 fun _ => 0, .ws .u64 6 fun _ => 0, .ws .u64 6 fun _ => 0, .ws .u64 6 fun _ => 0, .ws .u64 6 fun _ => 0, .ws .u64 6 fun _ => 0, .ws .u64 6 fun _ => 0], flat := some ((List.replicate 6 [some .u64]).flatten ++ ((List.replicate 6 [some .u64]).flatten ++ ((List.replicate 2 (List.replicate 6 [some .u64]).flatten).flatten ++ ((List.replicate 2 (List.replicate 6 [some .u64]).flatten).flatten ++ ((List.replicate 2 (List.replicate 6 [some .u64]).flatten).flatten ++ ((List.replicate 2 (List.replicate 6 [some .u64]).flatten).flatten ++ ((List.replicate 6 (List.replicate 2 (List.replicate 6 [some .u64]).flatten).flatten).flatten ++ []))))))) }
theorem und92 : Try.prog.underlying 92 = some ty92.desc := by kernel_rfl
theorem siz92 : (Try.prog.info? 92).map (·.size) = some ty92.sz := by kernel_rfl
theorem zer92 : (Try.prog.info? 92).bind (·.zero) = some (ty92.zero.val fun _ => 0) := by kernel_rfl
-- 93: pairing.walker
def ty93 : TyX := { desc := .struct #[{ name := "px", type := 45, offset := 0, embedded := false, tag := "", pkgPath := pkP1, byteOffset := 0 }, { name := "py", type := 45, offset := 6, embedded := false, tag := "", pkgPath := pkP1, byteOffset := 48 }, { name := "qx", type := 47, offset := 12, embedded := false, tag := "", pkgPath := pkP1, byteOffset := 96 }, { name := "qy", type := 47, offset := 24, embedded := false, tag := "", pkgPath := pkP1, byteOffset := 192 }, { name := "tx", type := 47, offset := 36, embedded := false, tag := "", pkgPath := pkP1, byteOffset := 288 }, { name := "ty", type := 47, offset := 48, embedded := false, tag := "", pkgPath := pkP1, byteOffset := 384 }, { name := "f", type := 49, offset := 60, embedded := false, tag := "", pkgPath := pkP1, byteOffset := 480 }], sz := 132, zero := .agg [.ws .u64 6 fun _ => 0, .ws .u64 6 fun _ => 0, .ws .u64 6 fun _ => 0, .ws .u64 6 fun _ => 0, .ws .u64 6 fun _ => 0, .ws .u64 6 fun _ => 0, .ws .u64 6 fun _ => 0, .ws .u64 6 fun _ => 0, .ws .u64 6 fun _ => 0, .ws .u64 6 fun _ => 0, .ws .u64 6 fun _ => 0, .ws .u64 6 fun _ => 0, .ws .u64 6 fun _ => 0, .ws .u64 6 fun _ => 0, .ws .u64 6 fun _ => 0, .ws .u64 6 fun _ => 0, .ws .u64 6 fun _ => 0, .ws .u64 6 fun _ => 0, .ws .u64 6 fun _ => 0, .ws .u64 6 fun _ => 0, .ws .u64 6 fun _ => 0, .ws .u64 6 fun _ => 0], flat := some ((List.replicate 6 [some .u64]).flatten ++ ((List.replicate 6 [some .u64]).flatten ++ ((List.replicate 2 (List.replicate 6 [some .u64]).flatten).flatten ++ ((List.replicate 2 (List.replicate 6 [some .u64]).flatten).flatten ++ ((List.replicate 2 (List.replicate 6 [some .u64]).flatten).flatten ++ ((List.replicate 2 (List.replicate 6 [some .u64]).flatten).flatten ++ ((List.replicate 6 (List.replicate 2 (List.replicate 6 [some .u64]).flatten).flatten).flatten ++ []))))))) }
theorem und93 : Try.prog.underlying 93 = some ty93.desc := by kernel_rfl
theorem siz93 : (Try.prog.info? 93).map (·.size) = some ty93.sz := by kernel_rfl
theorem zer93 : (Try.prog.info? 93).bind (·.zero) = some (ty93.zero.val fun _ => 0) := by kernel_rfl
-- 101: struct { x mont.El; y mont.El; z mont.El }
def ty101 : TyX := { desc := .struct #[{ name := "x", type := 45, offset := 0, embedded := false, tag := "", pkgPath := pkP0, byteOffset := 0 }, { name := "y", type := 45, offset := 6, embedded := false, tag := "", pkgPath := pkP0, byteOffset := 48 }, { name := "z", type := 45, offset := 12, embedded := false, tag := "", pkgPath := pkP0, byteOffset := 96 }], sz := 18, zero := .agg [.ws .u64 6 fun _ => 0, .ws .u64 6 fun _ => 0, .ws .u64 6 fun _ => 0], flat := some ((List.replicate 6 [some .u64]).flatten ++ ((List.replicate 6 [some .u64]).flatten ++ ((List.replicate 6 [some .u64]).flatten ++ []))) }
theorem und101 : Try.prog.underlying 101 = some ty101.desc := by kernel_rfl
theorem siz101 : (Try.prog.info? 101).map (·.size) = some ty101.sz := by kernel_rfl
theorem zer101 : (Try.prog.info? 101).bind (·.zero) = some (ty101.zero.val fun _ => 0) := by kernel_rfl
-- 102: curve.point[reliquary/mont.El]
def ty102 : TyX := { desc := .struct #[{ name := "x", type := 45, offset := 0, embedded := false, tag := "", pkgPath := pkP0, byteOffset := 0 }, { name := "y", type := 45, offset := 6, embedded := false, tag := "", pkgPath := pkP0, byteOffset := 48 }, { name := "z", type := 45, offset := 12, embedded := false, tag := "", pkgPath := pkP0, byteOffset := 96 }], sz := 18, zero := .agg [.ws .u64 6 fun _ => 0, .ws .u64 6 fun _ => 0, .ws .u64 6 fun _ => 0], flat := some ((List.replicate 6 [some .u64]).flatten ++ ((List.replicate 6 [some .u64]).flatten ++ ((List.replicate 6 [some .u64]).flatten ++ []))) }
theorem und102 : Try.prog.underlying 102 = some ty102.desc := by kernel_rfl
theorem siz102 : (Try.prog.info? 102).map (·.size) = some ty102.sz := by kernel_rfl
theorem zer102 : (Try.prog.info? 102).bind (·.zero) = some (ty102.zero.val fun _ => 0) := by kernel_rfl
-- 107: struct { x mont.F2; y mont.F2; z mont.F2 }
def ty107 : TyX := { desc := .struct #[{ name := "x", type := 47, offset := 0, embedded := false, tag := "", pkgPath := pkP0, byteOffset := 0 }, { name := "y", type := 47, offset := 12, embedded := false, tag := "", pkgPath := pkP0, byteOffset := 96 }, { name := "z", type := 47, offset := 24, embedded := false, tag := "", pkgPath := pkP0, byteOffset := 192 }], sz := 36, zero := .agg [.ws .u64 6 fun _ => 0, .ws .u64 6 fun _ => 0, .ws .u64 6 fun _ => 0, .ws .u64 6 fun _ => 0, .ws .u64 6 fun _ => 0, .ws .u64 6 fun _ => 0], flat := some ((List.replicate 2 (List.replicate 6 [some .u64]).flatten).flatten ++ ((List.replicate 2 (List.replicate 6 [some .u64]).flatten).flatten ++ ((List.replicate 2 (List.replicate 6 [some .u64]).flatten).flatten ++ []))) }
theorem und107 : Try.prog.underlying 107 = some ty107.desc := by kernel_rfl
theorem siz107 : (Try.prog.info? 107).map (·.size) = some ty107.sz := by kernel_rfl
theorem zer107 : (Try.prog.info? 107).bind (·.zero) = some (ty107.zero.val fun _ => 0) := by kernel_rfl
-- 108: curve.point[reliquary/mont.F2]
def ty108 : TyX := { desc := .struct #[{ name := "x", type := 47, offset := 0, embedded := false, tag := "", pkgPath := pkP0, byteOffset := 0 }, { name := "y", type := 47, offset := 12, embedded := false, tag := "", pkgPath := pkP0, byteOffset := 96 }, { name := "z", type := 47, offset := 24, embedded := false, tag := "", pkgPath := pkP0, byteOffset := 192 }], sz := 36, zero := .agg [.ws .u64 6 fun _ => 0, .ws .u64 6 fun _ => 0, .ws .u64 6 fun _ => 0, .ws .u64 6 fun _ => 0, .ws .u64 6 fun _ => 0, .ws .u64 6 fun _ => 0], flat := some ((List.replicate 2 (List.replicate 6 [some .u64]).flatten).flatten ++ ((List.replicate 2 (List.replicate 6 [some .u64]).flatten).flatten ++ ((List.replicate 2 (List.replicate 6 [some .u64]).flatten).flatten ++ []))) }
theorem und108 : Try.prog.underlying 108 = some ty108.desc := by kernel_rfl
theorem siz108 : (Try.prog.info? 108).map (·.size) = some ty108.sz := by kernel_rfl
theorem zer108 : (Try.prog.info? 108).bind (·.zero) = some (ty108.zero.val fun _ => 0) := by kernel_rfl
-- 114: uint
def ty114 : TyX := { desc := .int .u64, sz := 1, zero := .sc ((.w .u64 0)), flat := none }
theorem und114 : Try.prog.underlying 114 = some ty114.desc := by kernel_rfl
theorem siz114 : (Try.prog.info? 114).map (·.size) = some ty114.sz := by kernel_rfl
theorem zer114 : (Try.prog.info? 114).bind (·.zero) = some (ty114.zero.val fun _ => 0) := by kernel_rfl
-- 118: [7]uint64
def ty118 : TyX := { desc := .array 7 22, sz := 7, zero := .agg [.ws .u64 7 fun _ => 0], flat := some (List.replicate 7 [some .u64]).flatten }
theorem und118 : Try.prog.underlying 118 = some ty118.desc := by kernel_rfl
theorem siz118 : (Try.prog.info? 118).map (·.size) = some ty118.sz := by kernel_rfl
theorem zer118 : (Try.prog.info? 118).bind (·.zero) = some (ty118.zero.val fun _ => 0) := by kernel_rfl
-- 120: []uint64
def ty120 : TyX := { desc := .slice 22, sz := 1, zero := .sc ((.rw (.slice none 0 0))), flat := none }
theorem und120 : Try.prog.underlying 120 = some ty120.desc := by kernel_rfl
theorem siz120 : (Try.prog.info? 120).map (·.size) = some ty120.sz := by kernel_rfl
theorem zer120 : (Try.prog.info? 120).bind (·.zero) = some (ty120.zero.val fun _ => 0) := by kernel_rfl
-- 131: [0]*runtime.PanicNilError
def ty131 : TyX := { desc := .array 0 16, sz := 0, zero := .agg [], flat := none }
theorem und131 : Try.prog.underlying 131 = some ty131.desc := by kernel_rfl
theorem siz131 : (Try.prog.info? 131).map (·.size) = some ty131.sz := by kernel_rfl
theorem zer131 : (Try.prog.info? 131).bind (·.zero) = some (ty131.zero.val fun _ => 0) := by kernel_rfl
-- 135: uint32
def ty135 : TyX := { desc := .int .u32, sz := 1, zero := .sc ((.w .u32 0)), flat := none }
theorem und135 : Try.prog.underlying 135 = some ty135.desc := by kernel_rfl
theorem siz135 : (Try.prog.info? 135).map (·.size) = some ty135.sz := by kernel_rfl
theorem zer135 : (Try.prog.info? 135).bind (·.zero) = some (ty135.zero.val fun _ => 0) := by kernel_rfl
-- 138: func(unsafe.Pointer, unsafe.Pointer) bool
def ty138 : TyX := { desc := .func #[144, 144] #[4] false, sz := 1, zero := .sc ((.rw .nilFunc)), flat := none }
theorem und138 : Try.prog.underlying 138 = some ty138.desc := by kernel_rfl
theorem siz138 : (Try.prog.info? 138).map (·.size) = some ty138.sz := by kernel_rfl
theorem zer138 : (Try.prog.info? 138).bind (·.zero) = some (ty138.zero.val fun _ => 0) := by kernel_rfl
-- 139: *uint8
def ty139 : TyX := { desc := .pointer 5, sz := 1, zero := .sc ((.rw (.pointer none))), flat := none }
theorem und139 : Try.prog.underlying 139 = some ty139.desc := by kernel_rfl
theorem siz139 : (Try.prog.info? 139).map (·.size) = some ty139.sz := by kernel_rfl
theorem zer139 : (Try.prog.info? 139).bind (·.zero) = some (ty139.zero.val fun _ => 0) := by kernel_rfl
theorem eq22 : EqOk Try.prog 1 22 false [some .u64] := eqOk_int und22 siz22
theorem eq4 : EqOk Try.prog 1 4 false [none] := eqOk_bool und4 siz4
theorem eq23 : EqOk Try.prog 2 23 true (List.replicate 6 [some .u64]).flatten := eqOk_arr (n := 6) eq22 und23 siz23 siz22
theorem eq24 : EqOk Try.prog 2 24 true (List.replicate 6 [some .u64]).flatten := eqOk_arr (n := 6) eq22 und24 siz24 siz22
theorem eq45 : EqOk Try.prog 2 45 true (List.replicate 6 [some .u64]).flatten := eqOk_arr (n := 6) eq22 und45 siz45 siz22
theorem eq118 : EqOk Try.prog 2 118 true (List.replicate 7 [some .u64]).flatten := eqOk_arr (n := 7) eq22 und118 siz118 siz22
theorem eq25 : EqOk Try.prog 3 25 true (List.replicate 2 (List.replicate 6 [some .u64]).flatten).flatten := eqOk_arr (n := 2) eq24 und25 siz25 siz24
theorem eq26 : EqOk Try.prog 3 26 true (List.replicate 2 (List.replicate 6 [some .u64]).flatten).flatten := eqOk_arr (n := 2) eq24 und26 siz26 siz24
theorem eq40 : EqOk Try.prog 3 40 true ((List.replicate 6 [some .u64]).flatten ++ ((List.replicate 6 [some .u64]).flatten ++ ([none] ++ []))) := eqOk_struct (D := 2) (fs := match ty40.desc with | .struct fs => fs | _ => #[]) (.cons (by decide) rfl (eq24.mono (by decide)) <| .cons (by decide) rfl (eq24.mono (by decide)) <| .cons (by decide) rfl (eq4.mono (by decide)) <| .nil _) und40 siz40 (by kernel_rfl)
theorem eq41 : EqOk Try.prog 3 41 true ((List.replicate 6 [some .u64]).flatten ++ ((List.replicate 6 [some .u64]).flatten ++ ([none] ++ []))) := eqOk_struct (D := 2) (fs := match ty41.desc with | .struct fs => fs | _ => #[]) (.cons (by decide) rfl (eq24.mono (by decide)) <| .cons (by decide) rfl (eq24.mono (by decide)) <| .cons (by decide) rfl (eq4.mono (by decide)) <| .nil _) und41 siz41 (by kernel_rfl)
theorem eq46 : EqOk Try.prog 3 46 true (List.replicate 2 (List.replicate 6 [some .u64]).flatten).flatten := eqOk_arr (n := 2) eq45 und46 siz46 siz45
theorem eq47 : EqOk Try.prog 3 47 true (List.replicate 2 (List.replicate 6 [some .u64]).flatten).flatten := eqOk_arr (n := 2) eq45 und47 siz47 siz45
theorem eq77 : EqOk Try.prog 3 77 true ((List.replicate 6 [some .u64]).flatten ++ ((List.replicate 6 [some .u64]).flatten ++ ([none] ++ []))) := eqOk_struct (D := 2) (fs := match ty77.desc with | .struct fs => fs | _ => #[]) (.cons (by decide) rfl (eq45.mono (by decide)) <| .cons (by decide) rfl (eq45.mono (by decide)) <| .cons (by decide) rfl (eq4.mono (by decide)) <| .nil _) und77 siz77 (by kernel_rfl)
theorem eq78 : EqOk Try.prog 3 78 true ((List.replicate 6 [some .u64]).flatten ++ ((List.replicate 6 [some .u64]).flatten ++ ([none] ++ []))) := eqOk_struct (D := 2) (fs := match ty78.desc with | .struct fs => fs | _ => #[]) (.cons (by decide) rfl (eq45.mono (by decide)) <| .cons (by decide) rfl (eq45.mono (by decide)) <| .cons (by decide) rfl (eq4.mono (by decide)) <| .nil _) und78 siz78 (by kernel_rfl)
theorem eq101 : EqOk Try.prog 3 101 true ((List.replicate 6 [some .u64]).flatten ++ ((List.replicate 6 [some .u64]).flatten ++ ((List.replicate 6 [some .u64]).flatten ++ []))) := eqOk_struct (D := 2) (fs := match ty101.desc with | .struct fs => fs | _ => #[]) (.cons (by decide) rfl (eq45.mono (by decide)) <| .cons (by decide) rfl (eq45.mono (by decide)) <| .cons (by decide) rfl (eq45.mono (by decide)) <| .nil _) und101 siz101 (by kernel_rfl)
theorem eq102 : EqOk Try.prog 3 102 true ((List.replicate 6 [some .u64]).flatten ++ ((List.replicate 6 [some .u64]).flatten ++ ((List.replicate 6 [some .u64]).flatten ++ []))) := eqOk_struct (D := 2) (fs := match ty102.desc with | .struct fs => fs | _ => #[]) (.cons (by decide) rfl (eq45.mono (by decide)) <| .cons (by decide) rfl (eq45.mono (by decide)) <| .cons (by decide) rfl (eq45.mono (by decide)) <| .nil _) und102 siz102 (by kernel_rfl)
theorem eq27 : EqOk Try.prog 4 27 true (List.replicate 6 (List.replicate 2 (List.replicate 6 [some .u64]).flatten).flatten).flatten := eqOk_arr (n := 6) eq26 und27 siz27 siz26
theorem eq28 : EqOk Try.prog 4 28 true (List.replicate 6 (List.replicate 2 (List.replicate 6 [some .u64]).flatten).flatten).flatten := eqOk_arr (n := 6) eq26 und28 siz28 siz26
theorem eq42 : EqOk Try.prog 4 42 true ((List.replicate 2 (List.replicate 6 [some .u64]).flatten).flatten ++ ((List.replicate 2 (List.replicate 6 [some .u64]).flatten).flatten ++ ([none] ++ []))) := eqOk_struct (D := 3) (fs := match ty42.desc with | .struct fs => fs | _ => #[]) (.cons (by decide) rfl (eq26.mono (by decide)) <| .cons (by decide) rfl (eq26.mono (by decide)) <| .cons (by decide) rfl (eq4.mono (by decide)) <| .nil _) und42 siz42 (by kernel_rfl)
theorem eq43 : EqOk Try.prog 4 43 true ((List.replicate 2 (List.replicate 6 [some .u64]).flatten).flatten ++ ((List.replicate 2 (List.replicate 6 [some .u64]).flatten).flatten ++ ([none] ++ []))) := eqOk_struct (D := 3) (fs := match ty43.desc with | .struct fs => fs | _ => #[]) (.cons (by decide) rfl (eq26.mono (by decide)) <| .cons (by decide) rfl (eq26.mono (by decide)) <| .cons (by decide) rfl (eq4.mono (by decide)) <| .nil _) und43 siz43 (by kernel_rfl)
theorem eq48 : EqOk Try.prog 4 48 true (List.replicate 6 (List.replicate 2 (List.replicate 6 [some .u64]).flatten).flatten).flatten := eqOk_arr (n := 6) eq47 und48 siz48 siz47
theorem eq49 : EqOk Try.prog 4 49 true (List.replicate 6 (List.replicate 2 (List.replicate 6 [some .u64]).flatten).flatten).flatten := eqOk_arr (n := 6) eq47 und49 siz49 siz47
theorem eq64 : EqOk Try.prog 4 64 true (List.replicate 3 (List.replicate 2 (List.replicate 6 [some .u64]).flatten).flatten).flatten := eqOk_arr (n := 3) eq47 und64 siz64 siz47
theorem eq65 : EqOk Try.prog 4 65 true (List.replicate 3 (List.replicate 2 (List.replicate 6 [some .u64]).flatten).flatten).flatten := eqOk_arr (n := 3) eq47 und65 siz65 siz47
theorem eq86 : EqOk Try.prog 4 86 true ((List.replicate 2 (List.replicate 6 [some .u64]).flatten).flatten ++ ((List.replicate 2 (List.replicate 6 [some .u64]).flatten).flatten ++ ([none] ++ []))) := eqOk_struct (D := 3) (fs := match ty86.desc with | .struct fs => fs | _ => #[]) (.cons (by decide) rfl (eq47.mono (by decide)) <| .cons (by decide) rfl (eq47.mono (by decide)) <| .cons (by decide) rfl (eq4.mono (by decide)) <| .nil _) und86 siz86 (by kernel_rfl)
theorem eq87 : EqOk Try.prog 4 87 true ((List.replicate 2 (List.replicate 6 [some .u64]).flatten).flatten ++ ((List.replicate 2 (List.replicate 6 [some .u64]).flatten).flatten ++ ([none] ++ []))) := eqOk_struct (D := 3) (fs := match ty87.desc with | .struct fs => fs | _ => #[]) (.cons (by decide) rfl (eq47.mono (by decide)) <| .cons (by decide) rfl (eq47.mono (by decide)) <| .cons (by decide) rfl (eq4.mono (by decide)) <| .nil _) und87 siz87 (by kernel_rfl)
theorem eq107 : EqOk Try.prog 4 107 true ((List.replicate 2 (List.replicate 6 [some .u64]).flatten).flatten ++ ((List.replicate 2 (List.replicate 6 [some .u64]).flatten).flatten ++ ((List.replicate 2 (List.replicate 6 [some .u64]).flatten).flatten ++ []))) := eqOk_struct (D := 3) (fs := match ty107.desc with | .struct fs => fs | _ => #[]) (.cons (by decide) rfl (eq47.mono (by decide)) <| .cons (by decide) rfl (eq47.mono (by decide)) <| .cons (by decide) rfl (eq47.mono (by decide)) <| .nil _) und107 siz107 (by kernel_rfl)
theorem eq108 : EqOk Try.prog 4 108 true ((List.replicate 2 (List.replicate 6 [some .u64]).flatten).flatten ++ ((List.replicate 2 (List.replicate 6 [some .u64]).flatten).flatten ++ ((List.replicate 2 (List.replicate 6 [some .u64]).flatten).flatten ++ []))) := eqOk_struct (D := 3) (fs := match ty108.desc with | .struct fs => fs | _ => #[]) (.cons (by decide) rfl (eq47.mono (by decide)) <| .cons (by decide) rfl (eq47.mono (by decide)) <| .cons (by decide) rfl (eq47.mono (by decide)) <| .nil _) und108 siz108 (by kernel_rfl)
theorem eq92 : EqOk Try.prog 5 92 true ((List.replicate 6 [some .u64]).flatten ++ ((List.replicate 6 [some .u64]).flatten ++ ((List.replicate 2 (List.replicate 6 [some .u64]).flatten).flatten ++ ((List.replicate 2 (List.replicate 6 [some .u64]).flatten).flatten ++ ((List.replicate 2 (List.replicate 6 [some .u64]).flatten).flatten ++ ((List.replicate 2 (List.replicate 6 [some .u64]).flatten).flatten ++ ((List.replicate 6 (List.replicate 2 (List.replicate 6 [some .u64]).flatten).flatten).flatten ++ []))))))) := eqOk_struct (D := 4) (fs := match ty92.desc with | .struct fs => fs | _ => #[]) (.cons (by decide) rfl (eq45.mono (by decide)) <| .cons (by decide) rfl (eq45.mono (by decide)) <| .cons (by decide) rfl (eq47.mono (by decide)) <| .cons (by decide) rfl (eq47.mono (by decide)) <| .cons (by decide) rfl (eq47.mono (by decide)) <| .cons (by decide) rfl (eq47.mono (by decide)) <| .cons (by decide) rfl (eq49.mono (by decide)) <| .nil _) und92 siz92 (by kernel_rfl)
theorem eq93 : EqOk Try.prog 5 93 true ((List.replicate 6 [some .u64]).flatten ++ ((List.replicate 6 [some .u64]).flatten ++ ((List.replicate 2 (List.replicate 6 [some .u64]).flatten).flatten ++ ((List.replicate 2 (List.replicate 6 [some .u64]).flatten).flatten ++ ((List.replicate 2 (List.replicate 6 [some .u64]).flatten).flatten ++ ((List.replicate 2 (List.replicate 6 [some .u64]).flatten).flatten ++ ((List.replicate 6 (List.replicate 2 (List.replicate 6 [some .u64]).flatten).flatten).flatten ++ []))))))) := eqOk_struct (D := 4) (fs := match ty93.desc with | .struct fs => fs | _ => #[]) (.cons (by decide) rfl (eq45.mono (by decide)) <| .cons (by decide) rfl (eq45.mono (by decide)) <| .cons (by decide) rfl (eq47.mono (by decide)) <| .cons (by decide) rfl (eq47.mono (by decide)) <| .cons (by decide) rfl (eq47.mono (by decide)) <| .cons (by decide) rfl (eq47.mono (by decide)) <| .cons (by decide) rfl (eq49.mono (by decide)) <| .nil _) und93 siz93 (by kernel_rfl)
def ttL : List (Option TyX) := [none, none, some ty2, some ty3, some ty4, some ty5, none, none, none, some ty9, none, none, some ty12, none, none, none, none, none, none, none, none, none, some ty22, some ty23, some ty24, some ty25, some ty26, some ty27, some ty28, none, some ty30, none, none, none, none, none, some ty36, some ty37, none, none, some ty40, some ty41, some ty42, some ty43, none, some ty45, some ty46, some ty47, some ty48, some ty49, none, none, none, none, none, none, none, none, none, none, none, none, none, some ty63, some ty64, some ty65, none, none, none, none, none, some ty71, some ty72, some ty73, some ty74, none, none, some ty77, some ty78, none, some ty80, some ty81, some ty82, some ty83, none, none, some ty86, some ty87, none, none, some ty90, none, some ty92, some ty93, none, none, none, none, none, none, none, some ty101, some ty102, none, none, none, none, some ty107, some ty108, none, none, none, none, none, some ty114, none, none, none, some ty118, none, some ty120, none, none, none, none, none, none, none, none, none, none, some ty131, none, none, none, some ty135, none, none, some ty138, some ty139, none, none, none, none, none]
def tt : TT := nthO ttL
theorem tt_ok : TTOk Try.prog tt := ttOk_of (l := ttL) (
  ⟨⟨und2, siz2, zer2, zok_of (by kernel_rfl), (fun sk h => by cases h), by kernel_rfl, by kernel_rfl⟩,
  ⟨⟨und3, siz3, zer3, zok_of (by kernel_rfl), (fun sk h => by cases h), by kernel_rfl, by kernel_rfl⟩,
  ⟨⟨und4, siz4, zer4, zok_of (by kernel_rfl), (fun sk h => by cases h), by kernel_rfl, by kernel_rfl⟩,
  ⟨⟨und5, siz5, zer5, zok_of (by kernel_rfl), (fun sk h => by cases h), by kernel_rfl, by kernel_rfl⟩,
  ⟨⟨und9, siz9, zer9, zok_of (by kernel_rfl), (fun sk h => by cases h), by kernel_rfl, by kernel_rfl⟩,
  ⟨⟨und12, siz12, zer12, zok_of (by kernel_rfl), (fun sk h => by cases h), by kernel_rfl, by kernel_rfl⟩,
  ⟨⟨und22, siz22, zer22, zok_of (by kernel_rfl), (fun sk h => by cases h), by kernel_rfl, by kernel_rfl⟩,
  ⟨⟨und23, siz23, zer23, zok_of (by kernel_rfl), (fun sk h => by cases h; exact ⟨by kernel_rfl, eq23.mono (by decide)⟩), by kernel_rfl, by kernel_rfl⟩,
  ⟨⟨und24, siz24, zer24, zok_of (by kernel_rfl), (fun sk h => by cases h; exact ⟨by kernel_rfl, eq24.mono (by decide)⟩), by kernel_rfl, by kernel_rfl⟩,
  ⟨⟨und25, siz25, zer25, zok_of (by kernel_rfl), (fun sk h => by cases h; exact ⟨by kernel_rfl, eq25.mono (by decide)⟩), by kernel_rfl, by kernel_rfl⟩,
  ⟨⟨und26, siz26, zer26, zok_of (by kernel_rfl), (fun sk h => by cases h; exact ⟨by kernel_rfl, eq26.mono (by decide)⟩), by kernel_rfl, by kernel_rfl⟩,
  ⟨⟨und27, siz27, zer27, zok_of (by kernel_rfl), (fun sk h => by cases h; exact ⟨by kernel_rfl, eq27.mono (by decide)⟩), by kernel_rfl, by kernel_rfl⟩,
  ⟨⟨und28, siz28, zer28, zok_of (by kernel_rfl), (fun sk h => by cases h; exact ⟨by kernel_rfl, eq28.mono (by decide)⟩), by kernel_rfl, by kernel_rfl⟩,
  ⟨⟨und30, siz30, zer30, zok_of (by kernel_rfl), (fun sk h => by cases h), by kernel_rfl, by kernel_rfl⟩,
  ⟨⟨und36, siz36, zer36, zok_of (by kernel_rfl), (fun sk h => by cases h), by kernel_rfl, by kernel_rfl⟩,
  ⟨⟨und37, siz37, zer37, zok_of (by kernel_rfl), (fun sk h => by cases h), by kernel_rfl, by kernel_rfl⟩,
  ⟨⟨und40, siz40, zer40, zok_of (by kernel_rfl), (fun sk h => by cases h; exact ⟨by kernel_rfl, eq40.mono (by decide)⟩), by kernel_rfl, by kernel_rfl⟩,
  ⟨⟨und41, siz41, zer41, zok_of (by kernel_rfl), (fun sk h => by cases h; exact ⟨by kernel_rfl, eq41.mono (by decide)⟩), by kernel_rfl, by kernel_rfl⟩,
  ⟨⟨und42, siz42, zer42, zok_of (by kernel_rfl), (fun sk h => by cases h; exact ⟨by kernel_rfl, eq42.mono (by decide)⟩), by kernel_rfl, by kernel_rfl⟩,
  ⟨⟨und43, siz43, zer43, zok_of (by kernel_rfl), (fun sk h => by cases h; exact ⟨by kernel_rfl, eq43.mono (by decide)⟩), by kernel_rfl, by kernel_rfl⟩,
  ⟨⟨und45, siz45, zer45, zok_of (by kernel_rfl), (fun sk h => by cases h; exact ⟨by kernel_rfl, eq45.mono (by decide)⟩), by kernel_rfl, by kernel_rfl⟩,
  ⟨⟨und46, siz46, zer46, zok_of (by kernel_rfl), (fun sk h => by cases h; exact ⟨by kernel_rfl, eq46.mono (by decide)⟩), by kernel_rfl, by kernel_rfl⟩,
  ⟨⟨und47, siz47, zer47, zok_of (by kernel_rfl), (fun sk h => by cases h; exact ⟨by kernel_rfl, eq47.mono (by decide)⟩), by kernel_rfl, by kernel_rfl⟩,
  ⟨⟨und48, siz48, zer48, zok_of (by kernel_rfl), (fun sk h => by cases h; exact ⟨by kernel_rfl, eq48.mono (by decide)⟩), by kernel_rfl, by kernel_rfl⟩,
  ⟨⟨und49, siz49, zer49, zok_of (by kernel_rfl), (fun sk h => by cases h; exact ⟨by kernel_rfl, eq49.mono (by decide)⟩), by kernel_rfl, by kernel_rfl⟩,
  ⟨⟨und63, siz63, zer63, zok_of (by kernel_rfl), (fun sk h => by cases h), by kernel_rfl, by kernel_rfl⟩,
  ⟨⟨und64, siz64, zer64, zok_of (by kernel_rfl), (fun sk h => by cases h; exact ⟨by kernel_rfl, eq64.mono (by decide)⟩), by kernel_rfl, by kernel_rfl⟩,
  ⟨⟨und65, siz65, zer65, zok_of (by kernel_rfl), (fun sk h => by cases h; exact ⟨by kernel_rfl, eq65.mono (by decide)⟩), by kernel_rfl, by kernel_rfl⟩,
  ⟨⟨und71, siz71, zer71, zok_of (by kernel_rfl), (fun sk h => by cases h), by kernel_rfl, by kernel_rfl⟩,
  ⟨⟨und72, siz72, zer72, zok_of (by kernel_rfl), (fun sk h => by cases h), by kernel_rfl, by kernel_rfl⟩,
  ⟨⟨und73, siz73, zer73, zok_of (by kernel_rfl), (fun sk h => by cases h), by kernel_rfl, by kernel_rfl⟩,
  ⟨⟨und74, siz74, zer74, zok_of (by kernel_rfl), (fun sk h => by cases h), by kernel_rfl, by kernel_rfl⟩,
  ⟨⟨und77, siz77, zer77, zok_of (by kernel_rfl), (fun sk h => by cases h; exact ⟨by kernel_rfl, eq77.mono (by decide)⟩), by kernel_rfl, by kernel_rfl⟩,
  ⟨⟨und78, siz78, zer78, zok_of (by kernel_rfl), (fun sk h => by cases h; exact ⟨by kernel_rfl, eq78.mono (by decide)⟩), by kernel_rfl, by kernel_rfl⟩,
  ⟨⟨und80, siz80, zer80, zok_of (by kernel_rfl), (fun sk h => by cases h), by kernel_rfl, by kernel_rfl⟩,
  ⟨⟨und81, siz81, zer81, zok_of (by kernel_rfl), (fun sk h => by cases h), by kernel_rfl, by kernel_rfl⟩,
  ⟨⟨und82, siz82, zer82, zok_of (by kernel_rfl), (fun sk h => by cases h), by kernel_rfl, by kernel_rfl⟩,
  ⟨⟨und83, siz83, zer83, zok_of (by kernel_rfl), (fun sk h => by cases h), by kernel_rfl, by kernel_rfl⟩,
  ⟨⟨und86, siz86, zer86, zok_of (by kernel_rfl), (fun sk h => by cases h; exact ⟨by kernel_rfl, eq86.mono (by decide)⟩), by kernel_rfl, by kernel_rfl⟩,
  ⟨⟨und87, siz87, zer87, zok_of (by kernel_rfl), (fun sk h => by cases h; exact ⟨by kernel_rfl, eq87.mono (by decide)⟩), by kernel_rfl, by kernel_rfl⟩,
  ⟨⟨und90, siz90, zer90, zok_of (by kernel_rfl), (fun sk h => by cases h), by kernel_rfl, by kernel_rfl⟩,
  ⟨⟨und92, siz92, zer92, zok_of (by kernel_rfl), (fun sk h => by cases h; exact ⟨by kernel_rfl, eq92.mono (by decide)⟩), by kernel_rfl, by kernel_rfl⟩,
  ⟨⟨und93, siz93, zer93, zok_of (by kernel_rfl), (fun sk h => by cases h; exact ⟨by kernel_rfl, eq93.mono (by decide)⟩), by kernel_rfl, by kernel_rfl⟩,
  ⟨⟨und101, siz101, zer101, zok_of (by kernel_rfl), (fun sk h => by cases h; exact ⟨by kernel_rfl, eq101.mono (by decide)⟩), by kernel_rfl, by kernel_rfl⟩,
  ⟨⟨und102, siz102, zer102, zok_of (by kernel_rfl), (fun sk h => by cases h; exact ⟨by kernel_rfl, eq102.mono (by decide)⟩), by kernel_rfl, by kernel_rfl⟩,
  ⟨⟨und107, siz107, zer107, zok_of (by kernel_rfl), (fun sk h => by cases h; exact ⟨by kernel_rfl, eq107.mono (by decide)⟩), by kernel_rfl, by kernel_rfl⟩,
  ⟨⟨und108, siz108, zer108, zok_of (by kernel_rfl), (fun sk h => by cases h; exact ⟨by kernel_rfl, eq108.mono (by decide)⟩), by kernel_rfl, by kernel_rfl⟩,
  ⟨⟨und114, siz114, zer114, zok_of (by kernel_rfl), (fun sk h => by cases h), by kernel_rfl, by kernel_rfl⟩,
  ⟨⟨und118, siz118, zer118, zok_of (by kernel_rfl), (fun sk h => by cases h; exact ⟨by kernel_rfl, eq118.mono (by decide)⟩), by kernel_rfl, by kernel_rfl⟩,
  ⟨⟨und120, siz120, zer120, zok_of (by kernel_rfl), (fun sk h => by cases h), by kernel_rfl, by kernel_rfl⟩,
  ⟨⟨und131, siz131, zer131, zok_of (by kernel_rfl), (fun sk h => by cases h), by kernel_rfl, by kernel_rfl⟩,
  ⟨⟨und135, siz135, zer135, zok_of (by kernel_rfl), (fun sk h => by cases h), by kernel_rfl, by kernel_rfl⟩,
  ⟨⟨und138, siz138, zer138, zok_of (by kernel_rfl), (fun sk h => by cases h), by kernel_rfl, by kernel_rfl⟩,
  ⟨⟨und139, siz139, zer139, zok_of (by kernel_rfl), (fun sk h => by cases h), by kernel_rfl, by kernel_rfl⟩,
  trivial⟩⟩⟩⟩⟩⟩⟩⟩⟩⟩⟩⟩⟩⟩⟩⟩⟩⟩⟩⟩⟩⟩⟩⟩⟩⟩⟩⟩⟩⟩⟩⟩⟩⟩⟩⟩⟩⟩⟩⟩⟩⟩⟩⟩⟩⟩⟩⟩⟩⟩⟩⟩⟩⟩)
theorem mixed : Try.prog.follows .mixedOrders = true := Checked.mixed Try.checked
end Go.Proofs.Ytnjocbcjejpklaa
