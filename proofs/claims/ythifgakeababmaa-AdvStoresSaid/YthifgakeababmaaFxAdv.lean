/- Facts about types and functions of the program, by computation. Printed by a program. -/
import Derived.Test.YthifgakeababmaaFxBest
import Derived.Test.YthifgakeababmaaProg
import Derived.KernelRfl
namespace Go.Proofs.Ythifgakeababmaa.Fx
open Go Go.Am
noncomputable def q5 : TypeInfo := (Try.prog.info? 5).getD default
@[go_sem] theorem i5 : Try.prog.info? 5 = some q5 := by kernel_rfl
@[go_sem] theorem u5 : Try.prog.underlying 5 = some (Go.TypeDesc.int Go.IntKind.u8) := Try.underlying5
@[go_sem] theorem s5 : q5.size = 1 := by kernel_rfl
@[go_sem] theorem cl5 : Try.prog.cellsOf 5 = 1 := by kernel_rfl
@[go_sem] theorem b5 : q5.bytes = 1 := by kernel_rfl
@[go_sem] theorem z5 : aZero Try.prog 5 = some (.int .u8 0) := by kernel_rfl
noncomputable def q39 : TypeInfo := (Try.prog.info? 39).getD default
@[go_sem] theorem i39 : Try.prog.info? 39 = some q39 := by kernel_rfl
@[go_sem] theorem u39 : Try.prog.underlying 39 = some (Go.TypeDesc.slice 130) := Try.underlying39
@[go_sem] theorem s39 : q39.size = 1 := by kernel_rfl
@[go_sem] theorem cl39 : Try.prog.cellsOf 39 = 1 := by kernel_rfl
@[go_sem] theorem b39 : q39.bytes = 24 := by kernel_rfl
@[go_sem] theorem z39 : aZero Try.prog 39 = some (.slice none 0 0) := by kernel_rfl
noncomputable def q41 : TypeInfo := (Try.prog.info? 41).getD default
@[go_sem] theorem i41 : Try.prog.info? 41 = some q41 := by kernel_rfl
@[go_sem] theorem u41 : Try.prog.underlying 41 =  some (Go.TypeDesc.struct #[{ name := "ID", type := 3, offset := 0, embedded := false, tag := "", pkgPath := "", byteOffset := 0 }, { name := "Seq", type := 3, offset := 1, embedded := false, tag := "", pkgPath := "", byteOffset := 8 }, { name := "Age", type := 3, offset := 2, embedded := false, tag := "", pkgPath := "", byteOffset := 16 }, { name := "Links", type := 39, offset := 3, embedded := false, tag := "", pkgPath := "", byteOffset := 24 }]) := Try.underlying41
@[go_sem] theorem s41 : q41.size = 4 := by kernel_rfl
@[go_sem] theorem cl41 : Try.prog.cellsOf 41 = 4 := by kernel_rfl
@[go_sem] theorem b41 : q41.bytes = 48 := by kernel_rfl
@[go_sem] theorem z41 : aZero Try.prog 41 = some (.agg #[(.int .i64 0), (.int .i64 0), (.int .i64 0), (.slice none 0 0)]) := by kernel_rfl
noncomputable def q68 : TypeInfo := (Try.prog.info? 68).getD default
@[go_sem] theorem i68 : Try.prog.info? 68 = some q68 := by kernel_rfl
@[go_sem] theorem u68 : Try.prog.underlying 68 = some (Go.TypeDesc.slice 41) := Try.underlying68
@[go_sem] theorem s68 : q68.size = 1 := by kernel_rfl
@[go_sem] theorem cl68 : Try.prog.cellsOf 68 = 1 := by kernel_rfl
@[go_sem] theorem b68 : q68.bytes = 24 := by kernel_rfl
@[go_sem] theorem z68 : aZero Try.prog 68 = some (.slice none 0 0) := by kernel_rfl
noncomputable def q69 : TypeInfo := (Try.prog.info? 69).getD default
@[go_sem] theorem i69 : Try.prog.info? 69 = some q69 := by kernel_rfl
@[go_sem] theorem u69 : Try.prog.underlying 69 = some (Go.TypeDesc.pointer 157) := Try.underlying69
@[go_sem] theorem s69 : q69.size = 1 := by kernel_rfl
@[go_sem] theorem cl69 : Try.prog.cellsOf 69 = 1 := by kernel_rfl
@[go_sem] theorem b69 : q69.bytes = 8 := by kernel_rfl
@[go_sem] theorem z69 : aZero Try.prog 69 = some (.pointer none) := by kernel_rfl
noncomputable def q76 : TypeInfo := (Try.prog.info? 76).getD default
@[go_sem] theorem i76 : Try.prog.info? 76 = some q76 := by kernel_rfl
@[go_sem] theorem u76 : Try.prog.underlying 76 = some (Go.TypeDesc.slice 162) := Try.underlying76
@[go_sem] theorem s76 : q76.size = 1 := by kernel_rfl
@[go_sem] theorem cl76 : Try.prog.cellsOf 76 = 1 := by kernel_rfl
@[go_sem] theorem b76 : q76.bytes = 24 := by kernel_rfl
@[go_sem] theorem z76 : aZero Try.prog 76 = some (.slice none 0 0) := by kernel_rfl
noncomputable def q78 : TypeInfo := (Try.prog.info? 78).getD default
@[go_sem] theorem i78 : Try.prog.info? 78 = some q78 := by kernel_rfl
@[go_sem] theorem u78 : Try.prog.underlying 78 =  some (Go.TypeDesc.struct #[{ name := "Nodes", type := 3, offset := 0, embedded := false, tag := "", pkgPath := "", byteOffset := 0 }, { name := "Edges", type := 76, offset := 1, embedded := false, tag := "", pkgPath := "", byteOffset := 8 }]) := Try.underlying78
@[go_sem] theorem s78 : q78.size = 2 := by kernel_rfl
@[go_sem] theorem cl78 : Try.prog.cellsOf 78 = 2 := by kernel_rfl
@[go_sem] theorem b78 : q78.bytes = 32 := by kernel_rfl
@[go_sem] theorem z78 : aZero Try.prog 78 = some (.agg #[(.int .i64 0), (.slice none 0 0)]) := by kernel_rfl
noncomputable def q130 : TypeInfo := (Try.prog.info? 130).getD default
@[go_sem] theorem i130 : Try.prog.info? 130 = some q130 := by kernel_rfl
@[go_sem] theorem u130 : Try.prog.underlying 130 =  some (Go.TypeDesc.struct #[{ name := "Peer", type := 3, offset := 0, embedded := false, tag := "", pkgPath := "", byteOffset := 0 }, { name := "Cost", type := 3, offset := 1, embedded := false, tag := "", pkgPath := "", byteOffset := 8 }]) := Try.underlying130
@[go_sem] theorem s130 : q130.size = 2 := by kernel_rfl
@[go_sem] theorem cl130 : Try.prog.cellsOf 130 = 2 := by kernel_rfl
@[go_sem] theorem b130 : q130.bytes = 16 := by kernel_rfl
@[go_sem] theorem z130 : aZero Try.prog 130 = some (.agg #[(.int .i64 0), (.int .i64 0)]) := by kernel_rfl
noncomputable def q133 : TypeInfo := (Try.prog.info? 133).getD default
@[go_sem] theorem i133 : Try.prog.info? 133 = some q133 := by kernel_rfl
@[go_sem] theorem u133 : Try.prog.underlying 133 = some (Go.TypeDesc.slice 5) := Try.underlying133
@[go_sem] theorem s133 : q133.size = 1 := by kernel_rfl
@[go_sem] theorem cl133 : Try.prog.cellsOf 133 = 1 := by kernel_rfl
@[go_sem] theorem b133 : q133.bytes = 24 := by kernel_rfl
@[go_sem] theorem z133 : aZero Try.prog 133 = some (.slice none 0 0) := by kernel_rfl
noncomputable def q154 : TypeInfo := (Try.prog.info? 154).getD default
@[go_sem] theorem i154 : Try.prog.info? 154 = some q154 := by kernel_rfl
@[go_sem] theorem u154 : Try.prog.underlying 154 = some (Go.TypeDesc.array 16 41) := Try.underlying154
@[go_sem] theorem s154 : q154.size = 64 := by kernel_rfl
@[go_sem] theorem cl154 : Try.prog.cellsOf 154 = 64 := by kernel_rfl
@[go_sem] theorem b154 : q154.bytes = 768 := by kernel_rfl
/-- Many zero cells. -/
def zs154 : List Value := (List.replicate 16 [(.int .i64 0), (.int .i64 0), (.int .i64 0), (.slice none 0 0)]).flatten
theorem zs154_len : zs154.length = 64 := by kernel_rfl
@[go_sem] theorem z154 : aZero Try.prog 154 = some (.agg zs154.toArray) := by kernel_rfl
noncomputable def q155 : TypeInfo := (Try.prog.info? 155).getD default
@[go_sem] theorem i155 : Try.prog.info? 155 = some q155 := by kernel_rfl
@[go_sem] theorem u155 : Try.prog.underlying 155 = some (Go.TypeDesc.array 16 4) := Try.underlying155
@[go_sem] theorem s155 : q155.size = 16 := by kernel_rfl
@[go_sem] theorem cl155 : Try.prog.cellsOf 155 = 16 := by kernel_rfl
@[go_sem] theorem b155 : q155.bytes = 16 := by kernel_rfl
@[go_sem] theorem z155 : aZero Try.prog 155 = some (.agg #[(.bool false), (.bool false), (.bool false), (.bool false), (.bool false), (.bool false), (.bool false), (.bool false), (.bool false), (.bool false), (.bool false), (.bool false), (.bool false), (.bool false), (.bool false), (.bool false)]) := by kernel_rfl
noncomputable def q157 : TypeInfo := (Try.prog.info? 157).getD default
@[go_sem] theorem i157 : Try.prog.info? 157 = some q157 := by kernel_rfl
@[go_sem] theorem u157 : Try.prog.underlying 157 =  some (Go.TypeDesc.struct #[{ name := "l", type := 154, offset := 0, embedded := false, tag := "", pkgPath := "patchbay/adv", byteOffset := 0 }, { name := "has", type := 155, offset := 64, embedded := false, tag := "", pkgPath := "patchbay/adv", byteOffset := 768 }]) := Try.underlying157
@[go_sem] theorem s157 : q157.size = 80 := by kernel_rfl
@[go_sem] theorem cl157 : Try.prog.cellsOf 157 = 80 := by kernel_rfl
@[go_sem] theorem b157 : q157.bytes = 784 := by kernel_rfl
/-- Many zero cells. -/
def zs157 : List Value := (List.replicate 1 [(.int .i64 0), (.int .i64 0), (.int .i64 0), (.slice none 0 0), (.int .i64 0), (.int .i64 0), (.int .i64 0), (.slice none 0 0), (.int .i64 0), (.int .i64 0), (.int .i64 0), (.slice none 0 0), (.int .i64 0), (.int .i64 0), (.int .i64 0), (.slice none 0 0), (.int .i64 0), (.int .i64 0), (.int .i64 0), (.slice none 0 0), (.int .i64 0), (.int .i64 0), (.int .i64 0), (.slice none 0 0), (.int .i64 0), (.int .i64 0), (.int .i64 0), (.slice none 0 0), (.int .i64 0), (.int .i64 0), (.int .i64 0), (.slice none 0 0), (.int .i64 0), (.int .i64 0), (.int .i64 0), (.slice none 0 0), (.int .i64 0), (.int .i64 0), (.int .i64 0), (.slice none 0 0), (.int .i64 0), (.int .i64 0), (.int .i64 0), (.slice none 0 0), (.int .i64 0), (.int .i64 0), (.int .i64 0), (.slice none 0 0), (.int .i64 0), (.int .i64 0), (.int .i64 0), (.slice none 0 0), (.int .i64 0), (.int .i64 0), (.int .i64 0), (.slice none 0 0), (.int .i64 0), (.int .i64 0), (.int .i64 0), (.slice none 0 0), (.int .i64 0), (.int .i64 0), (.int .i64 0), (.slice none 0 0), (.bool false), (.bool false), (.bool false), (.bool false), (.bool false), (.bool false), (.bool false), (.bool false), (.bool false), (.bool false), (.bool false), (.bool false), (.bool false), (.bool false), (.bool false), (.bool false)]).flatten
theorem zs157_len : zs157.length = 80 := by kernel_rfl
@[go_sem] theorem z157 : aZero Try.prog 157 = some (.agg zs157.toArray) := by kernel_rfl
noncomputable def q162 : TypeInfo := (Try.prog.info? 162).getD default
@[go_sem] theorem i162 : Try.prog.info? 162 = some q162 := by kernel_rfl
@[go_sem] theorem u162 : Try.prog.underlying 162 =  some (Go.TypeDesc.struct #[{ name := "From", type := 3, offset := 0, embedded := false, tag := "", pkgPath := "", byteOffset := 0 }, { name := "To", type := 3, offset := 1, embedded := false, tag := "", pkgPath := "", byteOffset := 8 }, { name := "Cost", type := 3, offset := 2, embedded := false, tag := "", pkgPath := "", byteOffset := 16 }]) := Try.underlying162
@[go_sem] theorem s162 : q162.size = 3 := by kernel_rfl
@[go_sem] theorem cl162 : Try.prog.cellsOf 162 = 3 := by kernel_rfl
@[go_sem] theorem b162 : q162.bytes = 24 := by kernel_rfl
@[go_sem] theorem z162 : aZero Try.prog 162 = some (.agg #[(.int .i64 0), (.int .i64 0), (.int .i64 0)]) := by kernel_rfl
noncomputable def q187 : TypeInfo := (Try.prog.info? 187).getD default
@[go_sem] theorem i187 : Try.prog.info? 187 = some q187 := by kernel_rfl
@[go_sem] theorem u187 : Try.prog.underlying 187 = some (Go.TypeDesc.func #[130] #[4] false) := Try.underlying187
@[go_sem] theorem s187 : q187.size = 1 := by kernel_rfl
@[go_sem] theorem cl187 : Try.prog.cellsOf 187 = 1 := by kernel_rfl
@[go_sem] theorem b187 : q187.bytes = 8 := by kernel_rfl
@[go_sem] theorem z187 : aZero Try.prog 187 = some (.nilFunc) := by kernel_rfl
@[go_sem] theorem c77 : callable Try.prog 77 = true := by kernel_rfl
@[go_sem] theorem c78 : callable Try.prog 78 = true := by kernel_rfl
@[go_sem] theorem c79 : callable Try.prog 79 = true := by kernel_rfl
@[go_sem] theorem c76 : callable Try.prog 76 = true := by kernel_rfl
@[go_sem] theorem c21 : callable Try.prog 21 = true := by kernel_rfl
@[go_sem] theorem c25 : callable Try.prog 25 = true := by kernel_rfl
@[go_sem] theorem c36 : callable Try.prog 36 = true := by kernel_rfl
@[go_sem] theorem c37 : callable Try.prog 37 = true := by kernel_rfl
@[go_sem] theorem c39 : callable Try.prog 39 = true := by kernel_rfl
@[go_sem] theorem c82 : callable Try.prog 82 = true := by kernel_rfl
@[go_sem] theorem c118 : callable Try.prog 118 = true := by kernel_rfl
@[go_sem] theorem c81 : callable Try.prog 81 = true := by kernel_rfl
@[go_sem] theorem c92 : callable Try.prog 92 = true := by kernel_rfl
@[go_sem] theorem c40 : callable Try.prog 40 = true := by kernel_rfl
@[go_sem] theorem c38 : callable Try.prog 38 = true := by kernel_rfl
@[go_sem] theorem c141 : callable Try.prog 141 = true := by kernel_rfl
@[go_sem] theorem c123 : callable Try.prog 123 = true := by kernel_rfl
@[go_sem] theorem c93 : callable Try.prog 93 = true := by kernel_rfl
@[go_sem] theorem c122 : callable Try.prog 122 = true := by kernel_rfl
@[go_sem] theorem c124 : callable Try.prog 124 = true := by kernel_rfl
@[go_sem] theorem c94 : callable Try.prog 94 = true := by kernel_rfl
@[go_sem] theorem c41 : callable Try.prog 41 = true := by kernel_rfl
@[go_sem] theorem c142 : callable Try.prog 142 = true := by kernel_rfl
@[go_sem] theorem c125 : callable Try.prog 125 = true := by kernel_rfl
@[go_sem] theorem c95 : callable Try.prog 95 = true := by kernel_rfl
@[go_sem] theorem c126 : callable Try.prog 126 = true := by kernel_rfl
@[go_sem] theorem c42 : callable Try.prog 42 = true := by kernel_rfl
@[go_sem] theorem c43 : callable Try.prog 43 = true := by kernel_rfl
@[go_sem] theorem c44 : callable Try.prog 44 = true := by kernel_rfl
@[go_sem] theorem c45 : callable Try.prog 45 = true := by kernel_rfl
@[go_sem] theorem c46 : callable Try.prog 46 = true := by kernel_rfl
@[go_sem] theorem c47 : callable Try.prog 47 = true := by kernel_rfl
@[go_sem] theorem c96 : callable Try.prog 96 = true := by kernel_rfl
@[go_sem] theorem c48 : callable Try.prog 48 = true := by kernel_rfl
@[go_sem] theorem c7 : callable Try.prog 7 = true := by kernel_rfl
end Go.Proofs.Ythifgakeababmaa.Fx
