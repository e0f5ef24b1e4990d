/- Facts about types and functions of the program, by computation. Printed by a program. -/
import Derived.Test.YtlljiccilldnaaaAm14
import Derived.Test.YtlljiccilldnaaaProg
import Derived.KernelRfl
namespace Go.Proofs.Ytlljiccilldnaaa.Fx
open Go Go.Am
theorem mixed : Try.prog.follows .mixedOrders = true := by kernel_rfl
noncomputable def q3 : TypeInfo := (Try.prog.info? 3).getD default
@[go_sem] theorem i3 : Try.prog.info? 3 = some q3 := by kernel_rfl
@[go_sem] theorem u3 : Try.prog.underlying 3 = some (Go.TypeDesc.int Go.IntKind.i64) := Try.underlying3
@[go_sem] theorem s3 : q3.size = 1 := by kernel_rfl
@[go_sem] theorem cl3 : Try.prog.cellsOf 3 = 1 := by kernel_rfl
@[go_sem] theorem b3 : q3.bytes = 8 := by kernel_rfl
@[go_sem] theorem z3 : aZero Try.prog 3 = some (.int .i64 0) := by kernel_rfl
noncomputable def q4 : TypeInfo := (Try.prog.info? 4).getD default
@[go_sem] theorem i4 : Try.prog.info? 4 = some q4 := by kernel_rfl
@[go_sem] theorem u4 : Try.prog.underlying 4 = some Go.TypeDesc.bool := Try.underlying4
@[go_sem] theorem s4 : q4.size = 1 := by kernel_rfl
@[go_sem] theorem cl4 : Try.prog.cellsOf 4 = 1 := by kernel_rfl
@[go_sem] theorem b4 : q4.bytes = 1 := by kernel_rfl
@[go_sem] theorem z4 : aZero Try.prog 4 = some (.bool false) := by kernel_rfl
noncomputable def q5 : TypeInfo := (Try.prog.info? 5).getD default
@[go_sem] theorem i5 : Try.prog.info? 5 = some q5 := by kernel_rfl
@[go_sem] theorem u5 : Try.prog.underlying 5 = some (Go.TypeDesc.int Go.IntKind.u8) := Try.underlying5
@[go_sem] theorem s5 : q5.size = 1 := by kernel_rfl
@[go_sem] theorem cl5 : Try.prog.cellsOf 5 = 1 := by kernel_rfl
@[go_sem] theorem b5 : q5.bytes = 1 := by kernel_rfl
@[go_sem] theorem z5 : aZero Try.prog 5 = some (.int .u8 0) := by kernel_rfl
noncomputable def q9 : TypeInfo := (Try.prog.info? 9).getD default
@[go_sem] theorem i9 : Try.prog.info? 9 = some q9 := by kernel_rfl
@[go_sem] theorem u9 : Try.prog.underlying 9 = some Go.TypeDesc.string := Try.underlying9
@[go_sem] theorem s9 : q9.size = 1 := by kernel_rfl
@[go_sem] theorem cl9 : Try.prog.cellsOf 9 = 1 := by kernel_rfl
@[go_sem] theorem b9 : q9.bytes = 16 := by kernel_rfl
@[go_sem] theorem z9 : aZero Try.prog 9 = some (.string ⟨#[]⟩) := by kernel_rfl
noncomputable def q30 : TypeInfo := (Try.prog.info? 30).getD default
@[go_sem] theorem i30 : Try.prog.info? 30 = some q30 := by kernel_rfl
@[go_sem] theorem u30 : Try.prog.underlying 30 = some (Go.TypeDesc.int Go.IntKind.i64) := Try.underlying30
@[go_sem] theorem s30 : q30.size = 1 := by kernel_rfl
@[go_sem] theorem cl30 : Try.prog.cellsOf 30 = 1 := by kernel_rfl
@[go_sem] theorem b30 : q30.bytes = 8 := by kernel_rfl
@[go_sem] theorem z30 : aZero Try.prog 30 = some (.int .i64 0) := by kernel_rfl
noncomputable def q47 : TypeInfo := (Try.prog.info? 47).getD default
@[go_sem] theorem i47 : Try.prog.info? 47 = some q47 := by kernel_rfl
@[go_sem] theorem u47 : Try.prog.underlying 47 = some (Go.TypeDesc.slice 65) := Try.underlying47
@[go_sem] theorem s47 : q47.size = 1 := by kernel_rfl
@[go_sem] theorem cl47 : Try.prog.cellsOf 47 = 1 := by kernel_rfl
@[go_sem] theorem b47 : q47.bytes = 24 := by kernel_rfl
@[go_sem] theorem z47 : aZero Try.prog 47 = some (.slice none 0 0) := by kernel_rfl
noncomputable def q49 : TypeInfo := (Try.prog.info? 49).getD default
@[go_sem] theorem i49 : Try.prog.info? 49 = some q49 := by kernel_rfl
@[go_sem] theorem u49 : Try.prog.underlying 49 =  some (Go.TypeDesc.struct #[{ name := "Nodes", type := 3, offset := 0, embedded := false, tag := "", pkgPath := "", byteOffset := 0 }, { name := "Edges", type := 47, offset := 1, embedded := false, tag := "", pkgPath := "", byteOffset := 8 }]) := Try.underlying49
@[go_sem] theorem s49 : q49.size = 2 := by kernel_rfl
@[go_sem] theorem cl49 : Try.prog.cellsOf 49 = 2 := by kernel_rfl
@[go_sem] theorem b49 : q49.bytes = 32 := by kernel_rfl
@[go_sem] theorem z49 : aZero Try.prog 49 = some (.agg #[(.int .i64 0), (.slice none 0 0)]) := by kernel_rfl
noncomputable def q50 : TypeInfo := (Try.prog.info? 50).getD default
@[go_sem] theorem i50 : Try.prog.info? 50 = some q50 := by kernel_rfl
@[go_sem] theorem u50 : Try.prog.underlying 50 = some (Go.TypeDesc.slice 3) := Try.underlying50
@[go_sem] theorem s50 : q50.size = 1 := by kernel_rfl
@[go_sem] theorem cl50 : Try.prog.cellsOf 50 = 1 := by kernel_rfl
@[go_sem] theorem b50 : q50.bytes = 24 := by kernel_rfl
@[go_sem] theorem z50 : aZero Try.prog 50 = some (.slice none 0 0) := by kernel_rfl
noncomputable def q65 : TypeInfo := (Try.prog.info? 65).getD default
@[go_sem] theorem i65 : Try.prog.info? 65 = some q65 := by kernel_rfl
@[go_sem] theorem u65 : Try.prog.underlying 65 =  some (Go.TypeDesc.struct #[{ name := "From", type := 3, offset := 0, embedded := false, tag := "", pkgPath := "", byteOffset := 0 }, { name := "To", type := 3, offset := 1, embedded := false, tag := "", pkgPath := "", byteOffset := 8 }, { name := "Cost", type := 3, offset := 2, embedded := false, tag := "", pkgPath := "", byteOffset := 16 }]) := Try.underlying65
@[go_sem] theorem s65 : q65.size = 3 := by kernel_rfl
@[go_sem] theorem cl65 : Try.prog.cellsOf 65 = 3 := by kernel_rfl
@[go_sem] theorem b65 : q65.bytes = 24 := by kernel_rfl
@[go_sem] theorem z65 : aZero Try.prog 65 = some (.agg #[(.int .i64 0), (.int .i64 0), (.int .i64 0)]) := by kernel_rfl
noncomputable def q74 : TypeInfo := (Try.prog.info? 74).getD default
@[go_sem] theorem i74 : Try.prog.info? 74 = some q74 := by kernel_rfl
@[go_sem] theorem u74 : Try.prog.underlying 74 = some (Go.TypeDesc.slice 84) := Try.underlying74
@[go_sem] theorem s74 : q74.size = 1 := by kernel_rfl
@[go_sem] theorem cl74 : Try.prog.cellsOf 74 = 1 := by kernel_rfl
@[go_sem] theorem b74 : q74.bytes = 24 := by kernel_rfl
@[go_sem] theorem z74 : aZero Try.prog 74 = some (.slice none 0 0) := by kernel_rfl
noncomputable def q75 : TypeInfo := (Try.prog.info? 75).getD default
@[go_sem] theorem i75 : Try.prog.info? 75 = some q75 := by kernel_rfl
@[go_sem] theorem u75 : Try.prog.underlying 75 = some (Go.TypeDesc.pointer 128) := Try.underlying75
@[go_sem] theorem s75 : q75.size = 1 := by kernel_rfl
@[go_sem] theorem cl75 : Try.prog.cellsOf 75 = 1 := by kernel_rfl
@[go_sem] theorem b75 : q75.bytes = 8 := by kernel_rfl
@[go_sem] theorem z75 : aZero Try.prog 75 = some (.pointer none) := by kernel_rfl
noncomputable def q78 : TypeInfo := (Try.prog.info? 78).getD default
@[go_sem] theorem i78 : Try.prog.info? 78 = some q78 := by kernel_rfl
@[go_sem] theorem u78 : Try.prog.underlying 78 = some (Go.TypeDesc.slice 173) := Try.underlying78
@[go_sem] theorem s78 : q78.size = 1 := by kernel_rfl
@[go_sem] theorem cl78 : Try.prog.cellsOf 78 = 1 := by kernel_rfl
@[go_sem] theorem b78 : q78.bytes = 24 := by kernel_rfl
@[go_sem] theorem z78 : aZero Try.prog 78 = some (.slice none 0 0) := by kernel_rfl
noncomputable def q82 : TypeInfo := (Try.prog.info? 82).getD default
@[go_sem] theorem i82 : Try.prog.info? 82 = some q82 := by kernel_rfl
@[go_sem] theorem u82 : Try.prog.underlying 82 = some (Go.TypeDesc.slice 133) := Try.underlying82
@[go_sem] theorem s82 : q82.size = 1 := by kernel_rfl
@[go_sem] theorem cl82 : Try.prog.cellsOf 82 = 1 := by kernel_rfl
@[go_sem] theorem b82 : q82.bytes = 24 := by kernel_rfl
@[go_sem] theorem z82 : aZero Try.prog 82 = some (.slice none 0 0) := by kernel_rfl
noncomputable def q84 : TypeInfo := (Try.prog.info? 84).getD default
@[go_sem] theorem i84 : Try.prog.info? 84 = some q84 := by kernel_rfl
@[go_sem] theorem u84 : Try.prog.underlying 84 =  some (Go.TypeDesc.struct #[{ name := "ID", type := 3, offset := 0, embedded := false, tag := "", pkgPath := "", byteOffset := 0 }, { name := "Seq", type := 3, offset := 1, embedded := false, tag := "", pkgPath := "", byteOffset := 8 }, { name := "Age", type := 3, offset := 2, embedded := false, tag := "", pkgPath := "", byteOffset := 16 }, { name := "Links", type := 82, offset := 3, embedded := false, tag := "", pkgPath := "", byteOffset := 24 }]) := Try.underlying84
@[go_sem] theorem s84 : q84.size = 4 := by kernel_rfl
@[go_sem] theorem cl84 : Try.prog.cellsOf 84 = 4 := by kernel_rfl
@[go_sem] theorem b84 : q84.bytes = 48 := by kernel_rfl
@[go_sem] theorem z84 : aZero Try.prog 84 = some (.agg #[(.int .i64 0), (.int .i64 0), (.int .i64 0), (.slice none 0 0)]) := by kernel_rfl
noncomputable def q108 : TypeInfo := (Try.prog.info? 108).getD default
@[go_sem] theorem i108 : Try.prog.info? 108 = some q108 := by kernel_rfl
@[go_sem] theorem u108 : Try.prog.underlying 108 = some (Go.TypeDesc.array 16 3) := Try.underlying108
@[go_sem] theorem s108 : q108.size = 16 := by kernel_rfl
@[go_sem] theorem cl108 : Try.prog.cellsOf 108 = 16 := by kernel_rfl
@[go_sem] theorem b108 : q108.bytes = 128 := by kernel_rfl
@[go_sem] theorem z108 : aZero Try.prog 108 = some (.agg #[(.int .i64 0), (.int .i64 0), (.int .i64 0), (.int .i64 0), (.int .i64 0), (.int .i64 0), (.int .i64 0), (.int .i64 0), (.int .i64 0), (.int .i64 0), (.int .i64 0), (.int .i64 0), (.int .i64 0), (.int .i64 0), (.int .i64 0), (.int .i64 0)]) := by kernel_rfl
noncomputable def q120 : TypeInfo := (Try.prog.info? 120).getD default
@[go_sem] theorem i120 : Try.prog.info? 120 = some q120 := by kernel_rfl
@[go_sem] theorem u120 : Try.prog.underlying 120 = some (Go.TypeDesc.pointer 163) := Try.underlying120
@[go_sem] theorem s120 : q120.size = 1 := by kernel_rfl
@[go_sem] theorem cl120 : Try.prog.cellsOf 120 = 1 := by kernel_rfl
@[go_sem] theorem b120 : q120.bytes = 8 := by kernel_rfl
@[go_sem] theorem z120 : aZero Try.prog 120 = some (.pointer none) := by kernel_rfl
noncomputable def q122 : TypeInfo := (Try.prog.info? 122).getD default
@[go_sem] theorem i122 : Try.prog.info? 122 = some q122 := by kernel_rfl
@[go_sem] theorem u122 : Try.prog.underlying 122 = some (Go.TypeDesc.array 16 4) := Try.underlying122
@[go_sem] theorem s122 : q122.size = 16 := by kernel_rfl
@[go_sem] theorem cl122 : Try.prog.cellsOf 122 = 16 := by kernel_rfl
@[go_sem] theorem b122 : q122.bytes = 16 := by kernel_rfl
@[go_sem] theorem z122 : aZero Try.prog 122 = some (.agg #[(.bool false), (.bool false), (.bool false), (.bool false), (.bool false), (.bool false), (.bool false), (.bool false), (.bool false), (.bool false), (.bool false), (.bool false), (.bool false), (.bool false), (.bool false), (.bool false)]) := by kernel_rfl
noncomputable def q123 : TypeInfo := (Try.prog.info? 123).getD default
@[go_sem] theorem i123 : Try.prog.info? 123 = some q123 := by kernel_rfl
@[go_sem] theorem u123 : Try.prog.underlying 123 = some (Go.TypeDesc.slice 141) := Try.underlying123
@[go_sem] theorem s123 : q123.size = 1 := by kernel_rfl
@[go_sem] theorem cl123 : Try.prog.cellsOf 123 = 1 := by kernel_rfl
@[go_sem] theorem b123 : q123.bytes = 24 := by kernel_rfl
@[go_sem] theorem z123 : aZero Try.prog 123 = some (.slice none 0 0) := by kernel_rfl
noncomputable def q125 : TypeInfo := (Try.prog.info? 125).getD default
@[go_sem] theorem i125 : Try.prog.info? 125 = some q125 := by kernel_rfl
@[go_sem] theorem u125 : Try.prog.underlying 125 =  some (Go.TypeDesc.struct #[{ name := "up", type := 4, offset := 0, embedded := false, tag := "", pkgPath := "patchbay/flood", byteOffset := 0 }, { name := "peer", type := 3, offset := 1, embedded := false, tag := "", pkgPath := "patchbay/flood", byteOffset := 8 }, { name := "cost", type := 3, offset := 2, embedded := false, tag := "", pkgPath := "patchbay/flood", byteOffset := 16 }, { name := "wait", type := 108, offset := 3, embedded := false, tag := "", pkgPath := "patchbay/flood", byteOffset := 24 }, { name := "send", type := 122, offset := 19, embedded := false, tag := "", pkgPath := "patchbay/flood", byteOffset := 152 }, { name := "acks", type := 123, offset := 35, embedded := false, tag := "", pkgPath := "patchbay/flood", byteOffset := 168 }]) := Try.underlying125
@[go_sem] theorem s125 : q125.size = 36 := by kernel_rfl
@[go_sem] theorem cl125 : Try.prog.cellsOf 125 = 36 := by kernel_rfl
@[go_sem] theorem b125 : q125.bytes = 192 := by kernel_rfl
/-- Many zero cells. -/
def zs125 : List Value := (List.replicate 1 [(.bool false), (.int .i64 0), (.int .i64 0), (.int .i64 0), (.int .i64 0), (.int .i64 0), (.int .i64 0), (.int .i64 0), (.int .i64 0), (.int .i64 0), (.int .i64 0), (.int .i64 0), (.int .i64 0), (.int .i64 0), (.int .i64 0), (.int .i64 0), (.int .i64 0), (.int .i64 0), (.int .i64 0), (.bool false), (.bool false), (.bool false), (.bool false), (.bool false), (.bool false), (.bool false), (.bool false), (.bool false), (.bool false), (.bool false), (.bool false), (.bool false), (.bool false), (.bool false), (.bool false), (.slice none 0 0)]).flatten
theorem zs125_len : zs125.length = 36 := by kernel_rfl
@[go_sem] theorem z125 : aZero Try.prog 125 = some (.agg zs125.toArray) := by kernel_rfl
noncomputable def q126 : TypeInfo := (Try.prog.info? 126).getD default
@[go_sem] theorem i126 : Try.prog.info? 126 = some q126 := by kernel_rfl
@[go_sem] theorem u126 : Try.prog.underlying 126 = some (Go.TypeDesc.array 8 125) := Try.underlying126
@[go_sem] theorem s126 : q126.size = 288 := by kernel_rfl
@[go_sem] theorem cl126 : Try.prog.cellsOf 126 = 288 := by kernel_rfl
@[go_sem] theorem b126 : q126.bytes = 1536 := by kernel_rfl
/-- Many zero cells. -/
def zs126 : List Value := (List.replicate 8 [(.bool false), (.int .i64 0), (.int .i64 0), (.int .i64 0), (.int .i64 0), (.int .i64 0), (.int .i64 0), (.int .i64 0), (.int .i64 0), (.int .i64 0), (.int .i64 0), (.int .i64 0), (.int .i64 0), (.int .i64 0), (.int .i64 0), (.int .i64 0), (.int .i64 0), (.int .i64 0), (.int .i64 0), (.bool false), (.bool false), (.bool false), (.bool false), (.bool false), (.bool false), (.bool false), (.bool false), (.bool false), (.bool false), (.bool false), (.bool false), (.bool false), (.bool false), (.bool false), (.bool false), (.slice none 0 0)]).flatten
theorem zs126_len : zs126.length = 288 := by kernel_rfl
@[go_sem] theorem z126 : aZero Try.prog 126 = some (.agg zs126.toArray) := by kernel_rfl
noncomputable def q128 : TypeInfo := (Try.prog.info? 128).getD default
@[go_sem] theorem i128 : Try.prog.info? 128 = some q128 := by kernel_rfl
@[go_sem] theorem u128 : Try.prog.underlying 128 =  some (Go.TypeDesc.struct #[{ name := "id", type := 3, offset := 0, embedded := false, tag := "", pkgPath := "patchbay/flood", byteOffset := 0 }, { name := "seq", type := 3, offset := 1, embedded := false, tag := "", pkgPath := "patchbay/flood", byteOffset := 8 }, { name := "now", type := 3, offset := 2, embedded := false, tag := "", pkgPath := "patchbay/flood", byteOffset := 16 }, { name := "base", type := 120, offset := 3, embedded := false, tag := "", pkgPath := "patchbay/flood", byteOffset := 24 }, { name := "ports", type := 126, offset := 4, embedded := false, tag := "", pkgPath := "patchbay/flood", byteOffset := 32 }]) := Try.underlying128
@[go_sem] theorem s128 : q128.size = 292 := by kernel_rfl
@[go_sem] theorem cl128 : Try.prog.cellsOf 128 = 292 := by kernel_rfl
@[go_sem] theorem b128 : q128.bytes = 1568 := by kernel_rfl
/-- Many zero cells. -/
def zs128 : List Value := (List.replicate 1 [(.int .i64 0), (.int .i64 0), (.int .i64 0), (.pointer none), (.bool false), (.int .i64 0), (.int .i64 0), (.int .i64 0), (.int .i64 0), (.int .i64 0), (.int .i64 0), (.int .i64 0), (.int .i64 0), (.int .i64 0), (.int .i64 0), (.int .i64 0), (.int .i64 0), (.int .i64 0), (.int .i64 0), (.int .i64 0), (.int .i64 0), (.int .i64 0), (.int .i64 0), (.bool false), (.bool false), (.bool false), (.bool false), (.bool false), (.bool false), (.bool false), (.bool false), (.bool false), (.bool false), (.bool false), (.bool false), (.bool false), (.bool false), (.bool false), (.bool false), (.slice none 0 0), (.bool false), (.int .i64 0), (.int .i64 0), (.int .i64 0), (.int .i64 0), (.int .i64 0), (.int .i64 0), (.int .i64 0), (.int .i64 0), (.int .i64 0), (.int .i64 0), (.int .i64 0), (.int .i64 0), (.int .i64 0), (.int .i64 0), (.int .i64 0), (.int .i64 0), (.int .i64 0), (.int .i64 0), (.bool false), (.bool false), (.bool false), (.bool false), (.bool false), (.bool false), (.bool false), (.bool false), (.bool false), (.bool false), (.bool false), (.bool false), (.bool false), (.bool false), (.bool false), (.bool false), (.slice none 0 0), (.bool false), (.int .i64 0), (.int .i64 0), (.int .i64 0), (.int .i64 0), (.int .i64 0), (.int .i64 0), (.int .i64 0), (.int .i64 0), (.int .i64 0), (.int .i64 0), (.int .i64 0), (.int .i64 0), (.int .i64 0), (.int .i64 0), (.int .i64 0), (.int .i64 0), (.int .i64 0), (.int .i64 0), (.bool false), (.bool false), (.bool false), (.bool false), (.bool false), (.bool false), (.bool false), (.bool false), (.bool false), (.bool false), (.bool false), (.bool false), (.bool false), (.bool false), (.bool false), (.bool false), (.slice none 0 0), (.bool false), (.int .i64 0), (.int .i64 0), (.int .i64 0), (.int .i64 0), (.int .i64 0), (.int .i64 0), (.int .i64 0), (.int .i64 0), (.int .i64 0), (.int .i64 0), (.int .i64 0), (.int .i64 0), (.int .i64 0), (.int .i64 0), (.int .i64 0), (.int .i64 0), (.int .i64 0), (.int .i64 0), (.bool false), (.bool false), (.bool false), (.bool false), (.bool false), (.bool false), (.bool false), (.bool false), (.bool false), (.bool false), (.bool false), (.bool false), (.bool false), (.bool false), (.bool false), (.bool false), (.slice none 0 0), (.bool false), (.int .i64 0), (.int .i64 0), (.int .i64 0), (.int .i64 0), (.int .i64 0), (.int .i64 0), (.int .i64 0), (.int .i64 0), (.int .i64 0), (.int .i64 0), (.int .i64 0), (.int .i64 0), (.int .i64 0), (.int .i64 0), (.int .i64 0), (.int .i64 0), (.int .i64 0), (.int .i64 0), (.bool false), (.bool false), (.bool false), (.bool false), (.bool false), (.bool false), (.bool false), (.bool false), (.bool false), (.bool false), (.bool false), (.bool false), (.bool false), (.bool false), (.bool false), (.bool false), (.slice none 0 0), (.bool false), (.int .i64 0), (.int .i64 0), (.int .i64 0), (.int .i64 0), (.int .i64 0), (.int .i64 0), (.int .i64 0), (.int .i64 0), (.int .i64 0), (.int .i64 0), (.int .i64 0), (.int .i64 0), (.int .i64 0), (.int .i64 0), (.int .i64 0), (.int .i64 0), (.int .i64 0), (.int .i64 0), (.bool false), (.bool false), (.bool false), (.bool false), (.bool false), (.bool false), (.bool false), (.bool false), (.bool false), (.bool false), (.bool false), (.bool false), (.bool false), (.bool false), (.bool false), (.bool false), (.slice none 0 0), (.bool false), (.int .i64 0), (.int .i64 0), (.int .i64 0), (.int .i64 0), (.int .i64 0), (.int .i64 0), (.int .i64 0), (.int .i64 0), (.int .i64 0), (.int .i64 0), (.int .i64 0), (.int .i64 0), (.int .i64 0), (.int .i64 0), (.int .i64 0), (.int .i64 0), (.int .i64 0), (.int .i64 0), (.bool false), (.bool false), (.bool false), (.bool false), (.bool false), (.bool false), (.bool false), (.bool false), (.bool false), (.bool false), (.bool false), (.bool false), (.bool false), (.bool false), (.bool false), (.bool false), (.slice none 0 0), (.bool false), (.int .i64 0), (.int .i64 0), (.int .i64 0), (.int .i64 0), (.int .i64 0), (.int .i64 0), (.int .i64 0), (.int .i64 0), (.int .i64 0), (.int .i64 0), (.int .i64 0), (.int .i64 0), (.int .i64 0), (.int .i64 0), (.int .i64 0), (.int .i64 0), (.int .i64 0), (.int .i64 0), (.bool false), (.bool false), (.bool false), (.bool false), (.bool false), (.bool false), (.bool false), (.bool false), (.bool false), (.bool false), (.bool false), (.bool false), (.bool false), (.bool false), (.bool false), (.bool false), (.slice none 0 0)]).flatten
theorem zs128_len : zs128.length = 292 := by kernel_rfl
@[go_sem] theorem z128 : aZero Try.prog 128 = some (.agg zs128.toArray) := by kernel_rfl
noncomputable def q133 : TypeInfo := (Try.prog.info? 133).getD default
@[go_sem] theorem i133 : Try.prog.info? 133 = some q133 := by kernel_rfl
@[go_sem] theorem u133 : Try.prog.underlying 133 =  some (Go.TypeDesc.struct #[{ name := "Peer", type := 3, offset := 0, embedded := false, tag := "", pkgPath := "", byteOffset := 0 }, { name := "Cost", type := 3, offset := 1, embedded := false, tag := "", pkgPath := "", byteOffset := 8 }]) := Try.underlying133
@[go_sem] theorem s133 : q133.size = 2 := by kernel_rfl
@[go_sem] theorem cl133 : Try.prog.cellsOf 133 = 2 := by kernel_rfl
@[go_sem] theorem b133 : q133.bytes = 16 := by kernel_rfl
@[go_sem] theorem z133 : aZero Try.prog 133 = some (.agg #[(.int .i64 0), (.int .i64 0)]) := by kernel_rfl
noncomputable def q141 : TypeInfo := (Try.prog.info? 141).getD default
@[go_sem] theorem i141 : Try.prog.info? 141 = some q141 := by kernel_rfl
@[go_sem] theorem u141 : Try.prog.underlying 141 =  some (Go.TypeDesc.struct #[{ name := "id", type := 3, offset := 0, embedded := false, tag := "", pkgPath := "patchbay/flood", byteOffset := 0 }, { name := "seq", type := 3, offset := 1, embedded := false, tag := "", pkgPath := "patchbay/flood", byteOffset := 8 }]) := Try.underlying141
@[go_sem] theorem s141 : q141.size = 2 := by kernel_rfl
@[go_sem] theorem cl141 : Try.prog.cellsOf 141 = 2 := by kernel_rfl
@[go_sem] theorem b141 : q141.bytes = 16 := by kernel_rfl
@[go_sem] theorem z141 : aZero Try.prog 141 = some (.agg #[(.int .i64 0), (.int .i64 0)]) := by kernel_rfl
noncomputable def q144 : TypeInfo := (Try.prog.info? 144).getD default
@[go_sem] theorem i144 : Try.prog.info? 144 = some q144 := by kernel_rfl
@[go_sem] theorem u144 : Try.prog.underlying 144 = some (Go.TypeDesc.slice 5) := Try.underlying144
@[go_sem] theorem s144 : q144.size = 1 := by kernel_rfl
@[go_sem] theorem cl144 : Try.prog.cellsOf 144 = 1 := by kernel_rfl
@[go_sem] theorem b144 : q144.bytes = 24 := by kernel_rfl
@[go_sem] theorem z144 : aZero Try.prog 144 = some (.slice none 0 0) := by kernel_rfl
noncomputable def q161 : TypeInfo := (Try.prog.info? 161).getD default
@[go_sem] theorem i161 : Try.prog.info? 161 = some q161 := by kernel_rfl
@[go_sem] theorem u161 : Try.prog.underlying 161 = some (Go.TypeDesc.array 16 84) := Try.underlying161
@[go_sem] theorem s161 : q161.size = 64 := by kernel_rfl
@[go_sem] theorem cl161 : Try.prog.cellsOf 161 = 64 := by kernel_rfl
@[go_sem] theorem b161 : q161.bytes = 768 := by kernel_rfl
/-- Many zero cells. -/
def zs161 : List Value := (List.replicate 16 [(.int .i64 0), (.int .i64 0), (.int .i64 0), (.slice none 0 0)]).flatten
theorem zs161_len : zs161.length = 64 := by kernel_rfl
@[go_sem] theorem z161 : aZero Try.prog 161 = some (.agg zs161.toArray) := by kernel_rfl
noncomputable def q163 : TypeInfo := (Try.prog.info? 163).getD default
@[go_sem] theorem i163 : Try.prog.info? 163 = some q163 := by kernel_rfl
@[go_sem] theorem u163 : Try.prog.underlying 163 =  some (Go.TypeDesc.struct #[{ name := "l", type := 161, offset := 0, embedded := false, tag := "", pkgPath := "patchbay/adv", byteOffset := 0 }, { name := "has", type := 122, offset := 64, embedded := false, tag := "", pkgPath := "patchbay/adv", byteOffset := 768 }]) := Try.underlying163
@[go_sem] theorem s163 : q163.size = 80 := by kernel_rfl
@[go_sem] theorem cl163 : Try.prog.cellsOf 163 = 80 := by kernel_rfl
@[go_sem] theorem b163 : q163.bytes = 784 := by kernel_rfl
/-- Many zero cells. -/
def zs163 : List Value := (List.replicate 1 [(.int .i64 0), (.int .i64 0), (.int .i64 0), (.slice none 0 0), (.int .i64 0), (.int .i64 0), (.int .i64 0), (.slice none 0 0), (.int .i64 0), (.int .i64 0), (.int .i64 0), (.slice none 0 0), (.int .i64 0), (.int .i64 0), (.int .i64 0), (.slice none 0 0), (.int .i64 0), (.int .i64 0), (.int .i64 0), (.slice none 0 0), (.int .i64 0), (.int .i64 0), (.int .i64 0), (.slice none 0 0), (.int .i64 0), (.int .i64 0), (.int .i64 0), (.slice none 0 0), (.int .i64 0), (.int .i64 0), (.int .i64 0), (.slice none 0 0), (.int .i64 0), (.int .i64 0), (.int .i64 0), (.slice none 0 0), (.int .i64 0), (.int .i64 0), (.int .i64 0), (.slice none 0 0), (.int .i64 0), (.int .i64 0), (.int .i64 0), (.slice none 0 0), (.int .i64 0), (.int .i64 0), (.int .i64 0), (.slice none 0 0), (.int .i64 0), (.int .i64 0), (.int .i64 0), (.slice none 0 0), (.int .i64 0), (.int .i64 0), (.int .i64 0), (.slice none 0 0), (.int .i64 0), (.int .i64 0), (.int .i64 0), (.slice none 0 0), (.int .i64 0), (.int .i64 0), (.int .i64 0), (.slice none 0 0), (.bool false), (.bool false), (.bool false), (.bool false), (.bool false), (.bool false), (.bool false), (.bool false), (.bool false), (.bool false), (.bool false), (.bool false), (.bool false), (.bool false), (.bool false), (.bool false)]).flatten
theorem zs163_len : zs163.length = 80 := by kernel_rfl
@[go_sem] theorem z163 : aZero Try.prog 163 = some (.agg zs163.toArray) := by kernel_rfl
noncomputable def q165 : TypeInfo := (Try.prog.info? 165).getD default
@[go_sem] theorem i165 : Try.prog.info? 165 = some q165 := by kernel_rfl
@[go_sem] theorem u165 : Try.prog.underlying 165 = some (Go.TypeDesc.func #[133] #[4] false) := Try.underlying165
@[go_sem] theorem s165 : q165.size = 1 := by kernel_rfl
@[go_sem] theorem cl165 : Try.prog.cellsOf 165 = 1 := by kernel_rfl
@[go_sem] theorem b165 : q165.bytes = 8 := by kernel_rfl
@[go_sem] theorem z165 : aZero Try.prog 165 = some (.nilFunc) := by kernel_rfl
noncomputable def q173 : TypeInfo := (Try.prog.info? 173).getD default
@[go_sem] theorem i173 : Try.prog.info? 173 = some q173 := by kernel_rfl
@[go_sem] theorem u173 : Try.prog.underlying 173 =  some (Go.TypeDesc.struct #[{ name := "Port", type := 3, offset := 0, embedded := false, tag := "", pkgPath := "", byteOffset := 0 }, { name := "Body", type := 9, offset := 1, embedded := false, tag := "", pkgPath := "", byteOffset := 8 }]) := Try.underlying173
@[go_sem] theorem s173 : q173.size = 2 := by kernel_rfl
@[go_sem] theorem cl173 : Try.prog.cellsOf 173 = 2 := by kernel_rfl
@[go_sem] theorem b173 : q173.bytes = 24 := by kernel_rfl
@[go_sem] theorem z173 : aZero Try.prog 173 = some (.agg #[(.int .i64 0), (.string ⟨#[]⟩)]) := by kernel_rfl
@[go_sem] theorem c31 : callable Try.prog 31 = true := by kernel_rfl
@[go_sem] theorem c32 : callable Try.prog 32 = true := by kernel_rfl
@[go_sem] theorem c75 : callable Try.prog 75 = true := by kernel_rfl
@[go_sem] theorem c101 : callable Try.prog 101 = true := by kernel_rfl
@[go_sem] theorem c136 : callable Try.prog 136 = true := by kernel_rfl
@[go_sem] theorem c106 : callable Try.prog 106 = true := by kernel_rfl
@[go_sem] theorem c134 : callable Try.prog 134 = true := by kernel_rfl
@[go_sem] theorem c57 : callable Try.prog 57 = true := by kernel_rfl
@[go_sem] theorem c124 : callable Try.prog 124 = true := by kernel_rfl
@[go_sem] theorem c94 : callable Try.prog 94 = true := by kernel_rfl
@[go_sem] theorem c137 : callable Try.prog 137 = true := by kernel_rfl
@[go_sem] theorem c138 : callable Try.prog 138 = true := by kernel_rfl
@[go_sem] theorem c135 : callable Try.prog 135 = true := by kernel_rfl
@[go_sem] theorem c104 : callable Try.prog 104 = true := by kernel_rfl
@[go_sem] theorem c78 : callable Try.prog 78 = true := by kernel_rfl
@[go_sem] theorem c105 : callable Try.prog 105 = true := by kernel_rfl
@[go_sem] theorem c76 : callable Try.prog 76 = true := by kernel_rfl
@[go_sem] theorem c38 : callable Try.prog 38 = true := by kernel_rfl
@[go_sem] theorem c77 : callable Try.prog 77 = true := by kernel_rfl
@[go_sem] theorem c45 : callable Try.prog 45 = true := by kernel_rfl
@[go_sem] theorem c37 : callable Try.prog 37 = true := by kernel_rfl
@[go_sem] theorem c84 : callable Try.prog 84 = true := by kernel_rfl
@[go_sem] theorem c107 : callable Try.prog 107 = true := by kernel_rfl
@[go_sem] theorem c79 : callable Try.prog 79 = true := by kernel_rfl
@[go_sem] theorem c39 : callable Try.prog 39 = true := by kernel_rfl
@[go_sem] theorem c40 : callable Try.prog 40 = true := by kernel_rfl
@[go_sem] theorem c41 : callable Try.prog 41 = true := by kernel_rfl
@[go_sem] theorem c44 : callable Try.prog 44 = true := by kernel_rfl
@[go_sem] theorem c81 : callable Try.prog 81 = true := by kernel_rfl
@[go_sem] theorem c80 : callable Try.prog 80 = true := by kernel_rfl
@[go_sem] theorem c42 : callable Try.prog 42 = true := by kernel_rfl
@[go_sem] theorem c108 : callable Try.prog 108 = true := by kernel_rfl
@[go_sem] theorem c82 : callable Try.prog 82 = true := by kernel_rfl
@[go_sem] theorem c109 : callable Try.prog 109 = true := by kernel_rfl
@[go_sem] theorem c83 : callable Try.prog 83 = true := by kernel_rfl
@[go_sem] theorem c43 : callable Try.prog 43 = true := by kernel_rfl
@[go_sem] theorem c139 : callable Try.prog 139 = true := by kernel_rfl
@[go_sem] theorem c110 : callable Try.prog 110 = true := by kernel_rfl
@[go_sem] theorem c85 : callable Try.prog 85 = true := by kernel_rfl
@[go_sem] theorem c46 : callable Try.prog 46 = true := by kernel_rfl
@[go_sem] theorem c86 : callable Try.prog 86 = true := by kernel_rfl
@[go_sem] theorem c47 : callable Try.prog 47 = true := by kernel_rfl
@[go_sem] theorem c111 : callable Try.prog 111 = true := by kernel_rfl
@[go_sem] theorem c87 : callable Try.prog 87 = true := by kernel_rfl
@[go_sem] theorem c48 : callable Try.prog 48 = true := by kernel_rfl
@[go_sem] theorem c49 : callable Try.prog 49 = true := by kernel_rfl
@[go_sem] theorem c7 : callable Try.prog 7 = true := by kernel_rfl
@[go_sem] theorem c50 : callable Try.prog 50 = true := by kernel_rfl
@[go_sem] theorem c51 : callable Try.prog 51 = true := by kernel_rfl
@[go_sem] theorem c52 : callable Try.prog 52 = true := by kernel_rfl
@[go_sem] theorem c8 : callable Try.prog 8 = true := by kernel_rfl
@[go_sem] theorem c102 : callable Try.prog 102 = true := by kernel_rfl
@[go_sem] theorem c140 : callable Try.prog 140 = true := by kernel_rfl
@[go_sem] theorem c160 : callable Try.prog 160 = true := by kernel_rfl
end Go.Proofs.Ytlljiccilldnaaa.Fx
