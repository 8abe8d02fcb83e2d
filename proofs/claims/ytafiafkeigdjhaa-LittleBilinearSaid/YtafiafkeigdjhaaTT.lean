/- The table of types of this seat's translation, and that it is the program's: written by a program of ours. -/
import Derived.Test.YtafiafkeigdjhaaChecked
import Derived.Test.YtafiafkeigdjhaaFw
namespace Go.Proofs.Ytafiafkeigdjhaa
open Go.Rq Go

-- 2: int64
def ty2 : TyX := { desc := .int .i64, sz := 1, zero := .sc ((.it 0)), flat := none }
theorem und2 : Try.prog.underlying 2 = some ty2.desc := by kernel_rfl
theorem siz2 : (Try.prog.info? 2).map (·.size) = some ty2.sz := by kernel_rfl
theorem zer2 : (Try.prog.info? 2).bind (·.zero) = some (ty2.zero.val fun _ => 0) := by kernel_rfl
-- 3: int
def ty3 : TyX := { desc := .int .i64, sz := 1, zero := .sc ((.it 0)), flat := none }
theorem und3 : Try.prog.underlying 3 = some ty3.desc := by kernel_rfl
theorem siz3 : (Try.prog.info? 3).map (·.size) = some ty3.sz := by kernel_rfl
theorem zer3 : (Try.prog.info? 3).bind (·.zero) = some (ty3.zero.val fun _ => 0) := by kernel_rfl
-- 4: bool
def ty4 : TyX := { desc := .bool, sz := 1, zero := .sc ((.bo false)), flat := none }
theorem und4 : Try.prog.underlying 4 = some ty4.desc := by kernel_rfl
theorem siz4 : (Try.prog.info? 4).map (·.size) = some ty4.sz := by kernel_rfl
theorem zer4 : (Try.prog.info? 4).bind (·.zero) = some (ty4.zero.val fun _ => 0) := by kernel_rfl
-- 5: uint8
def ty5 : TyX := { desc := .int .u8, sz := 1, zero := .sc ((.w .u8 0)), flat := none }
theorem und5 : Try.prog.underlying 5 = some ty5.desc := by kernel_rfl
theorem siz5 : (Try.prog.info? 5).map (·.size) = some ty5.sz := by kernel_rfl
theorem zer5 : (Try.prog.info? 5).bind (·.zero) = some (ty5.zero.val fun _ => 0) := by kernel_rfl
-- 9: string
def ty9 : TyX := { desc := .string, sz := 1, zero := .sc ((.str 0 fun _ => 0)), flat := none }
theorem und9 : Try.prog.underlying 9 = some ty9.desc := by kernel_rfl
theorem siz9 : (Try.prog.info? 9).map (·.size) = some ty9.sz := by kernel_rfl
theorem zer9 : (Try.prog.info? 9).bind (·.zero) = some (ty9.zero.val fun _ => 0) := by kernel_rfl
-- 12: uintptr
def ty12 : TyX := { desc := .int .u64, sz := 1, zero := .sc ((.w .u64 0)), flat := none }
theorem und12 : Try.prog.underlying 12 = some ty12.desc := by kernel_rfl
theorem siz12 : (Try.prog.info? 12).map (·.size) = some ty12.sz := by kernel_rfl
theorem zer12 : (Try.prog.info? 12).bind (·.zero) = some (ty12.zero.val fun _ => 0) := by kernel_rfl
-- 22: api.Suite
def ty22 : TyX := { desc := .int .i64, sz := 1, zero := .sc ((.it 0)), flat := none }
theorem und22 : Try.prog.underlying 22 = some ty22.desc := by kernel_rfl
theorem siz22 : (Try.prog.info? 22).map (·.size) = some ty22.sz := by kernel_rfl
theorem zer22 : (Try.prog.info? 22).bind (·.zero) = some (ty22.zero.val fun _ => 0) := by kernel_rfl
-- 23: uint64
def ty23 : TyX := { desc := .int .u64, sz := 1, zero := .sc ((.w .u64 0)), flat := none }
theorem und23 : Try.prog.underlying 23 = some ty23.desc := by kernel_rfl
theorem siz23 : (Try.prog.info? 23).map (·.size) = some ty23.sz := by kernel_rfl
theorem zer23 : (Try.prog.info? 23).bind (·.zero) = some (ty23.zero.val fun _ => 0) := by kernel_rfl
-- 24: struct { X uint64; Y uint64; Zero bool }
def ty24 : TyX := { desc := .struct #[{ name := "X", type := 23, offset := 0, embedded := false, tag := "", pkgPath := "", byteOffset := 0 }, { name := "Y", type := 23, offset := 1, embedded := false, tag := "", pkgPath := "", byteOffset := 8 }, { name := "Zero", type := 4, offset := 2, embedded := false, tag := "", pkgPath := "", byteOffset := 16 }], sz := 3, zero := .agg [.one (.w .u64 0), .one (.w .u64 0), .one (.bo false)], flat := some ([some .u64] ++ ([some .u64] ++ ([none] ++ []))) }
theorem und24 : Try.prog.underlying 24 = some ty24.desc := by kernel_rfl
theorem siz24 : (Try.prog.info? 24).map (·.size) = some ty24.sz := by kernel_rfl
theorem zer24 : (Try.prog.info? 24).bind (·.zero) = some (ty24.zero.val fun _ => 0) := by kernel_rfl
-- 25: api.L1
def ty25 : TyX := { desc := .struct #[{ name := "X", type := 23, offset := 0, embedded := false, tag := "", pkgPath := "", byteOffset := 0 }, { name := "Y", type := 23, offset := 1, embedded := false, tag := "", pkgPath := "", byteOffset := 8 }, { name := "Zero", type := 4, offset := 2, embedded := false, tag := "", pkgPath := "", byteOffset := 16 }], sz := 3, zero := .agg [.one (.w .u64 0), .one (.w .u64 0), .one (.bo false)], flat := some ([some .u64] ++ ([some .u64] ++ ([none] ++ []))) }
theorem und25 : Try.prog.underlying 25 = some ty25.desc := by kernel_rfl
theorem siz25 : (Try.prog.info? 25).map (·.size) = some ty25.sz := by kernel_rfl
theorem zer25 : (Try.prog.info? 25).bind (·.zero) = some (ty25.zero.val fun _ => 0) := by kernel_rfl
-- 26: []uint8
def ty26 : TyX := { desc := .slice 5, sz := 1, zero := .sc ((.rw (.slice none 0 0))), flat := none }
theorem und26 : Try.prog.underlying 26 = some ty26.desc := by kernel_rfl
theorem siz26 : (Try.prog.info? 26).map (·.size) = some ty26.sz := by kernel_rfl
theorem zer26 : (Try.prog.info? 26).bind (·.zero) = some (ty26.zero.val fun _ => 0) := by kernel_rfl
-- 28: struct { P uint64; R uint64; C uint64; G api.L1 }
def ty28 : TyX := { desc := .struct #[{ name := "P", type := 23, offset := 0, embedded := false, tag := "", pkgPath := "", byteOffset := 0 }, { name := "R", type := 23, offset := 1, embedded := false, tag := "", pkgPath := "", byteOffset := 8 }, { name := "C", type := 23, offset := 2, embedded := false, tag := "", pkgPath := "", byteOffset := 16 }, { name := "G", type := 25, offset := 3, embedded := false, tag := "", pkgPath := "", byteOffset := 24 }], sz := 6, zero := .agg [.one (.w .u64 0), .one (.w .u64 0), .one (.w .u64 0), .one (.w .u64 0), .one (.w .u64 0), .one (.bo false)], flat := some ([some .u64] ++ ([some .u64] ++ ([some .u64] ++ (([some .u64] ++ ([some .u64] ++ ([none] ++ []))) ++ [])))) }
theorem und28 : Try.prog.underlying 28 = some ty28.desc := by kernel_rfl
theorem siz28 : (Try.prog.info? 28).map (·.size) = some ty28.sz := by kernel_rfl
theorem zer28 : (Try.prog.info? 28).bind (·.zero) = some (ty28.zero.val fun _ => 0) := by kernel_rfl
-- 29: reliquaryref07.Curve
def ty29 : TyX := { desc := .struct #[{ name := "P", type := 23, offset := 0, embedded := false, tag := "", pkgPath := "", byteOffset := 0 }, { name := "R", type := 23, offset := 1, embedded := false, tag := "", pkgPath := "", byteOffset := 8 }, { name := "C", type := 23, offset := 2, embedded := false, tag := "", pkgPath := "", byteOffset := 16 }, { name := "G", type := 25, offset := 3, embedded := false, tag := "", pkgPath := "", byteOffset := 24 }], sz := 6, zero := .agg [.one (.w .u64 0), .one (.w .u64 0), .one (.w .u64 0), .one (.w .u64 0), .one (.w .u64 0), .one (.bo false)], flat := some ([some .u64] ++ ([some .u64] ++ ([some .u64] ++ (([some .u64] ++ ([some .u64] ++ ([none] ++ []))) ++ [])))) }
theorem und29 : Try.prog.underlying 29 = some ty29.desc := by kernel_rfl
theorem siz29 : (Try.prog.info? 29).map (·.size) = some ty29.sz := by kernel_rfl
theorem zer29 : (Try.prog.info? 29).bind (·.zero) = some (ty29.zero.val fun _ => 0) := by kernel_rfl
-- 32: api.Errno
def ty32 : TyX := { desc := .int .i64, sz := 1, zero := .sc ((.it 0)), flat := none }
theorem und32 : Try.prog.underlying 32 = some ty32.desc := by kernel_rfl
theorem siz32 : (Try.prog.info? 32).map (·.size) = some ty32.sz := by kernel_rfl
theorem zer32 : (Try.prog.info? 32).bind (·.zero) = some (ty32.zero.val fun _ => 0) := by kernel_rfl
-- 42: [2]uint64
def ty42 : TyX := { desc := .array 2 23, sz := 2, zero := .agg [.ws .u64 2 fun _ => 0], flat := some (List.replicate 2 [some .u64]).flatten }
theorem und42 : Try.prog.underlying 42 = some ty42.desc := by kernel_rfl
theorem siz42 : (Try.prog.info? 42).map (·.size) = some ty42.sz := by kernel_rfl
theorem zer42 : (Try.prog.info? 42).bind (·.zero) = some (ty42.zero.val fun _ => 0) := by kernel_rfl
-- 43: api.L2
def ty43 : TyX := { desc := .array 2 23, sz := 2, zero := .agg [.ws .u64 2 fun _ => 0], flat := some (List.replicate 2 [some .u64]).flatten }
theorem und43 : Try.prog.underlying 43 = some ty43.desc := by kernel_rfl
theorem siz43 : (Try.prog.info? 43).map (·.size) = some ty43.sz := by kernel_rfl
theorem zer43 : (Try.prog.info? 43).bind (·.zero) = some (ty43.zero.val fun _ => 0) := by kernel_rfl
-- 68: uint32
def ty68 : TyX := { desc := .int .u32, sz := 1, zero := .sc ((.w .u32 0)), flat := none }
theorem und68 : Try.prog.underlying 68 = some ty68.desc := by kernel_rfl
theorem siz68 : (Try.prog.info? 68).map (·.size) = some ty68.sz := by kernel_rfl
theorem zer68 : (Try.prog.info? 68).bind (·.zero) = some (ty68.zero.val fun _ => 0) := by kernel_rfl
-- 71: struct { p uint64; r uint64; c uint64; g api.L1 }
def pkP0 : String := String.ofList ([114,101,108,105,113,117,97,114,121,47,108,105,116,116,108,101].map Char.ofNat)
def ty71 : TyX := { desc := .struct #[{ name := "p", type := 23, offset := 0, embedded := false, tag := "", pkgPath := pkP0, byteOffset := 0 }, { name := "r", type := 23, offset := 1, embedded := false, tag := "", pkgPath := pkP0, byteOffset := 8 }, { name := "c", type := 23, offset := 2, embedded := false, tag := "", pkgPath := pkP0, byteOffset := 16 }, { name := "g", type := 25, offset := 3, embedded := false, tag := "", pkgPath := pkP0, byteOffset := 24 }], sz := 6, zero := .agg [.one (.w .u64 0), .one (.w .u64 0), .one (.w .u64 0), .one (.w .u64 0), .one (.w .u64 0), .one (.bo false)], flat := some ([some .u64] ++ ([some .u64] ++ ([some .u64] ++ (([some .u64] ++ ([some .u64] ++ ([none] ++ []))) ++ [])))) }
theorem und71 : Try.prog.underlying 71 = some ty71.desc := by kernel_rfl
theorem siz71 : (Try.prog.info? 71).map (·.size) = some ty71.sz := by kernel_rfl
theorem zer71 : (Try.prog.info? 71).bind (·.zero) = some (ty71.zero.val fun _ => 0) := by kernel_rfl
-- 72: little.curve
def ty72 : TyX := { desc := .struct #[{ name := "p", type := 23, offset := 0, embedded := false, tag := "", pkgPath := pkP0, byteOffset := 0 }, { name := "r", type := 23, offset := 1, embedded := false, tag := "", pkgPath := pkP0, byteOffset := 8 }, { name := "c", type := 23, offset := 2, embedded := false, tag := "", pkgPath := pkP0, byteOffset := 16 }, { name := "g", type := 25, offset := 3, embedded := false, tag := "", pkgPath := pkP0, byteOffset := 24 }], sz := 6, zero := .agg [.one (.w .u64 0), .one (.w .u64 0), .one (.w .u64 0), .one (.w .u64 0), .one (.w .u64 0), .one (.bo false)], flat := some ([some .u64] ++ ([some .u64] ++ ([some .u64] ++ (([some .u64] ++ ([some .u64] ++ ([none] ++ []))) ++ [])))) }
theorem und72 : Try.prog.underlying 72 = some ty72.desc := by kernel_rfl
theorem siz72 : (Try.prog.info? 72).map (·.size) = some ty72.sz := by kernel_rfl
theorem zer72 : (Try.prog.info? 72).bind (·.zero) = some (ty72.zero.val fun _ => 0) := by kernel_rfl
-- 75: [17]uint8
def ty75 : TyX := { desc := .array 17 5, sz := 17, zero := .agg [.ws .u8 17 fun _ => 0], flat := some (List.replicate 17 [some .u8]).flatten }
theorem und75 : Try.prog.underlying 75 = some ty75.desc := by kernel_rfl
theorem siz75 : (Try.prog.info? 75).map (·.size) = some ty75.sz := by kernel_rfl
theorem zer75 : (Try.prog.info? 75).bind (·.zero) = some (ty75.zero.val fun _ => 0) := by kernel_rfl
-- 77: uint
def ty77 : TyX := { desc := .int .u64, sz := 1, zero := .sc ((.w .u64 0)), flat := none }
theorem und77 : Try.prog.underlying 77 = some ty77.desc := by kernel_rfl
theorem siz77 : (Try.prog.info? 77).map (·.size) = some ty77.sz := by kernel_rfl
theorem zer77 : (Try.prog.info? 77).bind (·.zero) = some (ty77.zero.val fun _ => 0) := by kernel_rfl
-- 85: []api.L1
def ty85 : TyX := { desc := .slice 25, sz := 1, zero := .sc ((.rw (.slice none 0 0))), flat := none }
theorem und85 : Try.prog.underlying 85 = some ty85.desc := by kernel_rfl
theorem siz85 : (Try.prog.info? 85).map (·.size) = some ty85.sz := by kernel_rfl
theorem zer85 : (Try.prog.info? 85).bind (·.zero) = some (ty85.zero.val fun _ => 0) := by kernel_rfl
-- 95: *errors.errorString
def ty95 : TyX := { desc := .pointer 112, sz := 1, zero := .sc ((.rw (.pointer none))), flat := none }
theorem und95 : Try.prog.underlying 95 = some ty95.desc := by kernel_rfl
theorem siz95 : (Try.prog.info? 95).map (·.size) = some ty95.sz := by kernel_rfl
theorem zer95 : (Try.prog.info? 95).bind (·.zero) = some (ty95.zero.val fun _ => 0) := by kernel_rfl
-- 99: [0]*runtime.PanicNilError
def ty99 : TyX := { desc := .array 0 16, sz := 0, zero := .agg [], flat := none }
theorem und99 : Try.prog.underlying 99 = some ty99.desc := by kernel_rfl
theorem siz99 : (Try.prog.info? 99).map (·.size) = some ty99.sz := by kernel_rfl
theorem zer99 : (Try.prog.info? 99).bind (·.zero) = some (ty99.zero.val fun _ => 0) := by kernel_rfl
-- 106: *uint8
def ty106 : TyX := { desc := .pointer 5, sz := 1, zero := .sc ((.rw (.pointer none))), flat := none }
theorem und106 : Try.prog.underlying 106 = some ty106.desc := by kernel_rfl
theorem siz106 : (Try.prog.info? 106).map (·.size) = some ty106.sz := by kernel_rfl
theorem zer106 : (Try.prog.info? 106).bind (·.zero) = some (ty106.zero.val fun _ => 0) := by kernel_rfl
-- 111: struct { s string }
def ty111 : TyX := { desc := .struct #[{ name := "s", type := 9, offset := 0, embedded := false, tag := "", pkgPath := "errors", byteOffset := 0 }], sz := 1, zero := .agg [.one (.str 0 fun _ => 0)], flat := none }
theorem und111 : Try.prog.underlying 111 = some ty111.desc := by kernel_rfl
theorem siz111 : (Try.prog.info? 111).map (·.size) = some ty111.sz := by kernel_rfl
theorem zer111 : (Try.prog.info? 111).bind (·.zero) = some (ty111.zero.val fun _ => 0) := by kernel_rfl
-- 112: errors.errorString
def ty112 : TyX := { desc := .struct #[{ name := "s", type := 9, offset := 0, embedded := false, tag := "", pkgPath := "errors", byteOffset := 0 }], sz := 1, zero := .agg [.one (.str 0 fun _ => 0)], flat := none }
theorem und112 : Try.prog.underlying 112 = some ty112.desc := by kernel_rfl
theorem siz112 : (Try.prog.info? 112).map (·.size) = some ty112.sz := by kernel_rfl
theorem zer112 : (Try.prog.info? 112).bind (·.zero) = some (ty112.zero.val fun _ => 0) := by kernel_rfl
theorem eq23 : EqOk Try.prog 1 23 false [some .u64] := eqOk_int und23 siz23
theorem eq4 : EqOk Try.prog 1 4 false [none] := eqOk_bool und4 siz4
theorem eq5 : EqOk Try.prog 1 5 false [some .u8] := eqOk_int und5 siz5
theorem eq24 : EqOk Try.prog 2 24 true ([some .u64] ++ ([some .u64] ++ ([none] ++ []))) := eqOk_struct (D := 1) (fs := match ty24.desc with | .struct fs => fs | _ => #[]) (.cons (by decide) rfl (eq23.mono (by decide)) <| .cons (by decide) rfl (eq23.mono (by decide)) <| .cons (by decide) rfl (eq4.mono (by decide)) <| .nil _) und24 siz24 (by kernel_rfl)
theorem eq25 : EqOk Try.prog 2 25 true ([some .u64] ++ ([some .u64] ++ ([none] ++ []))) := eqOk_struct (D := 1) (fs := match ty25.desc with | .struct fs => fs | _ => #[]) (.cons (by decide) rfl (eq23.mono (by decide)) <| .cons (by decide) rfl (eq23.mono (by decide)) <| .cons (by decide) rfl (eq4.mono (by decide)) <| .nil _) und25 siz25 (by kernel_rfl)
theorem eq42 : EqOk Try.prog 2 42 true (List.replicate 2 [some .u64]).flatten := eqOk_arr (n := 2) eq23 und42 siz42 siz23
theorem eq43 : EqOk Try.prog 2 43 true (List.replicate 2 [some .u64]).flatten := eqOk_arr (n := 2) eq23 und43 siz43 siz23
theorem eq75 : EqOk Try.prog 2 75 true (List.replicate 17 [some .u8]).flatten := eqOk_arr (n := 17) eq5 und75 siz75 siz5
theorem eq28 : EqOk Try.prog 3 28 true ([some .u64] ++ ([some .u64] ++ ([some .u64] ++ (([some .u64] ++ ([some .u64] ++ ([none] ++ []))) ++ [])))) := eqOk_struct (D := 2) (fs := match ty28.desc with | .struct fs => fs | _ => #[]) (.cons (by decide) rfl (eq23.mono (by decide)) <| .cons (by decide) rfl (eq23.mono (by decide)) <| .cons (by decide) rfl (eq23.mono (by decide)) <| .cons (by decide) rfl (eq25.mono (by decide)) <| .nil _) und28 siz28 (by kernel_rfl)
theorem eq29 : EqOk Try.prog 3 29 true ([some .u64] ++ ([some .u64] ++ ([some .u64] ++ (([some .u64] ++ ([some .u64] ++ ([none] ++ []))) ++ [])))) := eqOk_struct (D := 2) (fs := match ty29.desc with | .struct fs => fs | _ => #[]) (.cons (by decide) rfl (eq23.mono (by decide)) <| .cons (by decide) rfl (eq23.mono (by decide)) <| .cons (by decide) rfl (eq23.mono (by decide)) <| .cons (by decide) rfl (eq25.mono (by decide)) <| .nil _) und29 siz29 (by kernel_rfl)
theorem eq71 : EqOk Try.prog 3 71 true ([some .u64] ++ ([some .u64] ++ ([some .u64] ++ (([some .u64] ++ ([some .u64] ++ ([none] ++ []))) ++ [])))) := eqOk_struct (D := 2) (fs := match ty71.desc with | .struct fs => fs | _ => #[]) (.cons (by decide) rfl (eq23.mono (by decide)) <| .cons (by decide) rfl (eq23.mono (by decide)) <| .cons (by decide) rfl (eq23.mono (by decide)) <| .cons (by decide) rfl (eq25.mono (by decide)) <| .nil _) und71 siz71 (by kernel_rfl)
theorem eq72 : EqOk Try.prog 3 72 true ([some .u64] ++ ([some .u64] ++ ([some .u64] ++ (([some .u64] ++ ([some .u64] ++ ([none] ++ []))) ++ [])))) := eqOk_struct (D := 2) (fs := match ty72.desc with | .struct fs => fs | _ => #[]) (.cons (by decide) rfl (eq23.mono (by decide)) <| .cons (by decide) rfl (eq23.mono (by decide)) <| .cons (by decide) rfl (eq23.mono (by decide)) <| .cons (by decide) rfl (eq25.mono (by decide)) <| .nil _) und72 siz72 (by kernel_rfl)
def ttL : List (Option TyX) := [none, none, some ty2, some ty3, some ty4, some ty5, none, none, none, some ty9, none, none, some ty12, none, none, none, none, none, none, none, none, none, some ty22, some ty23, some ty24, some ty25, some ty26, none, some ty28, some ty29, none, none, some ty32, none, none, none, none, none, none, none, none, none, some ty42, some ty43, none, none, none, none, none, none, none, none, none, none, none, none, none, none, none, none, none, none, none, none, none, none, none, none, some ty68, none, none, some ty71, some ty72, none, none, some ty75, none, some ty77, none, none, none, none, none, none, none, some ty85, none, none, none, none, none, none, none, none, none, some ty95, none, none, none, some ty99, none, none, none, none, none, none, some ty106, none, none, none, none, some ty111, some ty112, none]
def tt : TT := nthO ttL
theorem tt_ok : TTOk Try.prog tt := ttOk_of (l := ttL) (
  ⟨⟨und2, siz2, zer2, zok_of (by kernel_rfl), (fun sk h => by cases h), by kernel_rfl, by kernel_rfl⟩,
  ⟨⟨und3, siz3, zer3, zok_of (by kernel_rfl), (fun sk h => by cases h), by kernel_rfl, by kernel_rfl⟩,
  ⟨⟨und4, siz4, zer4, zok_of (by kernel_rfl), (fun sk h => by cases h), by kernel_rfl, by kernel_rfl⟩,
  ⟨⟨und5, siz5, zer5, zok_of (by kernel_rfl), (fun sk h => by cases h), by kernel_rfl, by kernel_rfl⟩,
  ⟨⟨und9, siz9, zer9, zok_of (by kernel_rfl), (fun sk h => by cases h), by kernel_rfl, by kernel_rfl⟩,
  ⟨⟨und12, siz12, zer12, zok_of (by kernel_rfl), (fun sk h => by cases h), by kernel_rfl, by kernel_rfl⟩,
  ⟨⟨und22, siz22, zer22, zok_of (by kernel_rfl), (fun sk h => by cases h), by kernel_rfl, by kernel_rfl⟩,
  ⟨⟨und23, siz23, zer23, zok_of (by kernel_rfl), (fun sk h => by cases h), by kernel_rfl, by kernel_rfl⟩,
  ⟨⟨und24, siz24, zer24, zok_of (by kernel_rfl), (fun sk h => by cases h; exact ⟨by kernel_rfl, eq24.mono (by decide)⟩), by kernel_rfl, by kernel_rfl⟩,
  ⟨⟨und25, siz25, zer25, zok_of (by kernel_rfl), (fun sk h => by cases h; exact ⟨by kernel_rfl, eq25.mono (by decide)⟩), by kernel_rfl, by kernel_rfl⟩,
  ⟨⟨und26, siz26, zer26, zok_of (by kernel_rfl), (fun sk h => by cases h), by kernel_rfl, by kernel_rfl⟩,
  ⟨⟨und28, siz28, zer28, zok_of (by kernel_rfl), (fun sk h => by cases h; exact ⟨by kernel_rfl, eq28.mono (by decide)⟩), by kernel_rfl, by kernel_rfl⟩,
  ⟨⟨und29, siz29, zer29, zok_of (by kernel_rfl), (fun sk h => by cases h; exact ⟨by kernel_rfl, eq29.mono (by decide)⟩), by kernel_rfl, by kernel_rfl⟩,
  ⟨⟨und32, siz32, zer32, zok_of (by kernel_rfl), (fun sk h => by cases h), by kernel_rfl, by kernel_rfl⟩,
  ⟨⟨und42, siz42, zer42, zok_of (by kernel_rfl), (fun sk h => by cases h; exact ⟨by kernel_rfl, eq42.mono (by decide)⟩), by kernel_rfl, by kernel_rfl⟩,
  ⟨⟨und43, siz43, zer43, zok_of (by kernel_rfl), (fun sk h => by cases h; exact ⟨by kernel_rfl, eq43.mono (by decide)⟩), by kernel_rfl, by kernel_rfl⟩,
  ⟨⟨und68, siz68, zer68, zok_of (by kernel_rfl), (fun sk h => by cases h), by kernel_rfl, by kernel_rfl⟩,
  ⟨⟨und71, siz71, zer71, zok_of (by kernel_rfl), (fun sk h => by cases h; exact ⟨by kernel_rfl, eq71.mono (by decide)⟩), by kernel_rfl, by kernel_rfl⟩,
  ⟨⟨und72, siz72, zer72, zok_of (by kernel_rfl), (fun sk h => by cases h; exact ⟨by kernel_rfl, eq72.mono (by decide)⟩), by kernel_rfl, by kernel_rfl⟩,
  ⟨⟨und75, siz75, zer75, zok_of (by kernel_rfl), (fun sk h => by cases h; exact ⟨by kernel_rfl, eq75.mono (by decide)⟩), by kernel_rfl, by kernel_rfl⟩,
  ⟨⟨und77, siz77, zer77, zok_of (by kernel_rfl), (fun sk h => by cases h), by kernel_rfl, by kernel_rfl⟩,
  ⟨⟨und85, siz85, zer85, zok_of (by kernel_rfl), (fun sk h => by cases h), by kernel_rfl, by kernel_rfl⟩,
  ⟨⟨und95, siz95, zer95, zok_of (by kernel_rfl), (fun sk h => by cases h), by kernel_rfl, by kernel_rfl⟩,
  ⟨⟨und99, siz99, zer99, zok_of (by kernel_rfl), (fun sk h => by cases h), by kernel_rfl, by kernel_rfl⟩,
  ⟨⟨und106, siz106, zer106, zok_of (by kernel_rfl), (fun sk h => by cases h), by kernel_rfl, by kernel_rfl⟩,
  ⟨⟨und111, siz111, zer111, zok_of (by kernel_rfl), (fun sk h => by cases h), by kernel_rfl, by kernel_rfl⟩,
  ⟨⟨und112, siz112, zer112, zok_of (by kernel_rfl), (fun sk h => by cases h), by kernel_rfl, by kernel_rfl⟩,
  trivial⟩⟩⟩⟩⟩⟩⟩⟩⟩⟩⟩⟩⟩⟩⟩⟩⟩⟩⟩⟩⟩⟩⟩⟩⟩⟩⟩)
theorem mixed : Try.prog.follows .mixedOrders = true := Checked.mixed Try.checked
end Go.Proofs.Ytafiafkeigdjhaa
