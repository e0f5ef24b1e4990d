/- Facts about types and functions of the program, by computation. Printed by a program. -/
import Derived.Test.YtlljiccilldnaaaFxFlood
import Derived.Test.YtlljiccilldnaaaProg
import Derived.KernelRfl
namespace Go.Proofs.Ytlljiccilldnaaa.Fx
open Go Go.Am
noncomputable def q22 : TypeInfo := (Try.prog.info? 22).getD default
@[go_sem] theorem i22 : Try.prog.info? 22 = some q22 := by kernel_rfl
@[go_sem] theorem u22 : Try.prog.underlying 22 = some (Go.TypeDesc.slice 29) := Try.underlying22
@[go_sem] theorem s22 : q22.size = 1 := by kernel_rfl
@[go_sem] theorem cl22 : Try.prog.cellsOf 22 = 1 := by kernel_rfl
@[go_sem] theorem b22 : q22.bytes = 24 := by kernel_rfl
@[go_sem] theorem z22 : aZero Try.prog 22 = some (.slice none 0 0) := by kernel_rfl
noncomputable def q23 : TypeInfo := (Try.prog.info? 23).getD default
@[go_sem] theorem i23 : Try.prog.info? 23 = some q23 := by kernel_rfl
@[go_sem] theorem u23 : Try.prog.underlying 23 = some (Go.TypeDesc.int Go.IntKind.u32) := Try.underlying23
@[go_sem] theorem s23 : q23.size = 1 := by kernel_rfl
@[go_sem] theorem cl23 : Try.prog.cellsOf 23 = 1 := by kernel_rfl
@[go_sem] theorem b23 : q23.bytes = 4 := by kernel_rfl
@[go_sem] theorem z23 : aZero Try.prog 23 = some (.int .u32 0) := by kernel_rfl
noncomputable def q25 : TypeInfo := (Try.prog.info? 25).getD default
@[go_sem] theorem i25 : Try.prog.info? 25 = some q25 := by kernel_rfl
@[go_sem] theorem u25 : Try.prog.underlying 25 =  some (Go.TypeDesc.struct #[{ name := "Src", type := 23, offset := 0, embedded := false, tag := "", pkgPath := "", byteOffset := 0 }, { name := "Dst", type := 23, offset := 1, embedded := false, tag := "", pkgPath := "", byteOffset := 4 }, { name := "Proto", type := 3, offset := 2, embedded := false, tag := "", pkgPath := "", byteOffset := 8 }, { name := "SrcPort", type := 3, offset := 3, embedded := false, tag := "", pkgPath := "", byteOffset := 16 }, { name := "DstPort", type := 3, offset := 4, embedded := false, tag := "", pkgPath := "", byteOffset := 24 }]) := Try.underlying25
@[go_sem] theorem s25 : q25.size = 5 := by kernel_rfl
@[go_sem] theorem cl25 : Try.prog.cellsOf 25 = 5 := by kernel_rfl
@[go_sem] theorem b25 : q25.bytes = 32 := by kernel_rfl
@[go_sem] theorem z25 : aZero Try.prog 25 = some (.agg #[(.int .u32 0), (.int .u32 0), (.int .i64 0), (.int .i64 0), (.int .i64 0)]) := by kernel_rfl
noncomputable def q29 : TypeInfo := (Try.prog.info? 29).getD default
@[go_sem] theorem i29 : Try.prog.info? 29 = some q29 := by kernel_rfl
@[go_sem] theorem u29 : Try.prog.underlying 29 =  some (Go.TypeDesc.struct #[{ name := "Port", type := 3, offset := 0, embedded := false, tag := "", pkgPath := "", byteOffset := 0 }, { name := "Addr", type := 23, offset := 1, embedded := false, tag := "", pkgPath := "", byteOffset := 8 }]) := Try.underlying29
@[go_sem] theorem s29 : q29.size = 2 := by kernel_rfl
@[go_sem] theorem cl29 : Try.prog.cellsOf 29 = 2 := by kernel_rfl
@[go_sem] theorem b29 : q29.bytes = 16 := by kernel_rfl
@[go_sem] theorem z29 : aZero Try.prog 29 = some (.agg #[(.int .i64 0), (.int .u32 0)]) := by kernel_rfl
noncomputable def q40 : TypeInfo := (Try.prog.info? 40).getD default
@[go_sem] theorem i40 : Try.prog.info? 40 = some q40 := by kernel_rfl
@[go_sem] theorem u40 : Try.prog.underlying 40 =  some (Go.TypeDesc.struct #[{ name := "Src", type := 23, offset := 0, embedded := false, tag := "", pkgPath := "", byteOffset := 0 }, { name := "Dst", type := 23, offset := 1, embedded := false, tag := "", pkgPath := "", byteOffset := 4 }, { name := "Proto", type := 3, offset := 2, embedded := false, tag := "", pkgPath := "", byteOffset := 8 }, { name := "TTL", type := 3, offset := 3, embedded := false, tag := "", pkgPath := "", byteOffset := 16 }, { name := "ID", type := 3, offset := 4, embedded := false, tag := "", pkgPath := "", byteOffset := 24 }, { name := "Off", type := 3, offset := 5, embedded := false, tag := "", pkgPath := "", byteOffset := 32 }, { name := "More", type := 4, offset := 6, embedded := false, tag := "", pkgPath := "", byteOffset := 40 }, { name := "Whole", type := 4, offset := 7, embedded := false, tag := "", pkgPath := "", byteOffset := 41 }, { name := "Body", type := 9, offset := 8, embedded := false, tag := "", pkgPath := "", byteOffset := 48 }]) := Try.underlying40
@[go_sem] theorem s40 : q40.size = 9 := by kernel_rfl
@[go_sem] theorem cl40 : Try.prog.cellsOf 40 = 9 := by kernel_rfl
@[go_sem] theorem b40 : q40.bytes = 64 := by kernel_rfl
@[go_sem] theorem z40 : aZero Try.prog 40 = some (.agg #[(.int .u32 0), (.int .u32 0), (.int .i64 0), (.int .i64 0), (.int .i64 0), (.int .i64 0), (.bool false), (.bool false), (.string ⟨#[]⟩)]) := by kernel_rfl
noncomputable def q102 : TypeInfo := (Try.prog.info? 102).getD default
@[go_sem] theorem i102 : Try.prog.info? 102 = some q102 := by kernel_rfl
@[go_sem] theorem u102 : Try.prog.underlying 102 = some (Go.TypeDesc.int Go.IntKind.u64) := Try.underlying102
@[go_sem] theorem s102 : q102.size = 1 := by kernel_rfl
@[go_sem] theorem cl102 : Try.prog.cellsOf 102 = 1 := by kernel_rfl
@[go_sem] theorem b102 : q102.bytes = 8 := by kernel_rfl
@[go_sem] theorem z102 : aZero Try.prog 102 = some (.int .u64 0) := by kernel_rfl
noncomputable def q104 : TypeInfo := (Try.prog.info? 104).getD default
@[go_sem] theorem i104 : Try.prog.info? 104 = some q104 := by kernel_rfl
@[go_sem] theorem u104 : Try.prog.underlying 104 =  some (Go.TypeDesc.func #[29, 29] #[3] false) := Try.underlying104
@[go_sem] theorem s104 : q104.size = 1 := by kernel_rfl
@[go_sem] theorem cl104 : Try.prog.cellsOf 104 = 1 := by kernel_rfl
@[go_sem] theorem b104 : q104.bytes = 8 := by kernel_rfl
@[go_sem] theorem z104 : aZero Try.prog 104 = some (.nilFunc) := by kernel_rfl
noncomputable def q106 : TypeInfo := (Try.prog.info? 106).getD default
@[go_sem] theorem i106 : Try.prog.info? 106 = some q106 := by kernel_rfl
@[go_sem] theorem u106 : Try.prog.underlying 106 = some (Go.TypeDesc.int Go.IntKind.u64) := Try.underlying106
@[go_sem] theorem s106 : q106.size = 1 := by kernel_rfl
@[go_sem] theorem cl106 : Try.prog.cellsOf 106 = 1 := by kernel_rfl
@[go_sem] theorem b106 : q106.bytes = 8 := by kernel_rfl
@[go_sem] theorem z106 : aZero Try.prog 106 = some (.int .u64 0) := by kernel_rfl
noncomputable def q148 : TypeInfo := (Try.prog.info? 148).getD default
@[go_sem] theorem i148 : Try.prog.info? 148 = some q148 := by kernel_rfl
@[go_sem] theorem u148 : Try.prog.underlying 148 = some (Go.TypeDesc.func #[29] #[4] false) := Try.underlying148
@[go_sem] theorem s148 : q148.size = 1 := by kernel_rfl
@[go_sem] theorem cl148 : Try.prog.cellsOf 148 = 1 := by kernel_rfl
@[go_sem] theorem b148 : q148.bytes = 8 := by kernel_rfl
@[go_sem] theorem z148 : aZero Try.prog 148 = some (.nilFunc) := by kernel_rfl
noncomputable def q153 : TypeInfo := (Try.prog.info? 153).getD default
@[go_sem] theorem i153 : Try.prog.info? 153 = some q153 := by kernel_rfl
@[go_sem] theorem u153 : Try.prog.underlying 153 = some (Go.TypeDesc.array 7 102) := Try.underlying153
@[go_sem] theorem s153 : q153.size = 7 := by kernel_rfl
@[go_sem] theorem cl153 : Try.prog.cellsOf 153 = 7 := by kernel_rfl
@[go_sem] theorem b153 : q153.bytes = 56 := by kernel_rfl
@[go_sem] theorem z153 : aZero Try.prog 153 = some (.agg #[(.int .u64 0), (.int .u64 0), (.int .u64 0), (.int .u64 0), (.int .u64 0), (.int .u64 0), (.int .u64 0)]) := by kernel_rfl
noncomputable def q156 : TypeInfo := (Try.prog.info? 156).getD default
@[go_sem] theorem i156 : Try.prog.info? 156 = some q156 := by kernel_rfl
@[go_sem] theorem u156 : Try.prog.underlying 156 = some (Go.TypeDesc.slice 102) := Try.underlying156
@[go_sem] theorem s156 : q156.size = 1 := by kernel_rfl
@[go_sem] theorem cl156 : Try.prog.cellsOf 156 = 1 := by kernel_rfl
@[go_sem] theorem b156 : q156.bytes = 24 := by kernel_rfl
@[go_sem] theorem z156 : aZero Try.prog 156 = some (.slice none 0 0) := by kernel_rfl
@[go_sem] theorem c4 : callable Try.prog 4 = true := by kernel_rfl
@[go_sem] theorem c3 : callable Try.prog 3 = true := by kernel_rfl
@[go_sem] theorem c9 : callable Try.prog 9 = true := by kernel_rfl
@[go_sem] theorem c10 : callable Try.prog 10 = true := by kernel_rfl
@[go_sem] theorem c11 : callable Try.prog 11 = true := by kernel_rfl
@[go_sem] theorem c12 : callable Try.prog 12 = true := by kernel_rfl
@[go_sem] theorem c13 : callable Try.prog 13 = true := by kernel_rfl
@[go_sem] theorem c14 : callable Try.prog 14 = true := by kernel_rfl
@[go_sem] theorem c15 : callable Try.prog 15 = true := by kernel_rfl
@[go_sem] theorem c16 : callable Try.prog 16 = true := by kernel_rfl
@[go_sem] theorem c17 : callable Try.prog 17 = true := by kernel_rfl
@[go_sem] theorem c18 : callable Try.prog 18 = true := by kernel_rfl
@[go_sem] theorem c19 : callable Try.prog 19 = true := by kernel_rfl
@[go_sem] theorem c53 : callable Try.prog 53 = true := by kernel_rfl
@[go_sem] theorem c54 : callable Try.prog 54 = true := by kernel_rfl
@[go_sem] theorem c55 : callable Try.prog 55 = true := by kernel_rfl
@[go_sem] theorem c56 : callable Try.prog 56 = true := by kernel_rfl
@[go_sem] theorem c58 : callable Try.prog 58 = true := by kernel_rfl
@[go_sem] theorem c59 : callable Try.prog 59 = true := by kernel_rfl
@[go_sem] theorem c60 : callable Try.prog 60 = true := by kernel_rfl
@[go_sem] theorem c61 : callable Try.prog 61 = true := by kernel_rfl
@[go_sem] theorem c62 : callable Try.prog 62 = true := by kernel_rfl
@[go_sem] theorem c63 : callable Try.prog 63 = true := by kernel_rfl
@[go_sem] theorem c88 : callable Try.prog 88 = true := by kernel_rfl
@[go_sem] theorem c89 : callable Try.prog 89 = true := by kernel_rfl
@[go_sem] theorem c90 : callable Try.prog 90 = true := by kernel_rfl
@[go_sem] theorem c91 : callable Try.prog 91 = true := by kernel_rfl
@[go_sem] theorem c92 : callable Try.prog 92 = true := by kernel_rfl
@[go_sem] theorem c112 : callable Try.prog 112 = true := by kernel_rfl
@[go_sem] theorem c113 : callable Try.prog 113 = true := by kernel_rfl
@[go_sem] theorem c114 : callable Try.prog 114 = true := by kernel_rfl
@[go_sem] theorem c123 : callable Try.prog 123 = true := by kernel_rfl
@[go_sem] theorem c93 : callable Try.prog 93 = true := by kernel_rfl
@[go_sem] theorem c95 : callable Try.prog 95 = true := by kernel_rfl
end Go.Proofs.Ytlljiccilldnaaa.Fx
