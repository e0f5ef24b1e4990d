/- Facts about types and functions of the program, by computation. Printed by a program. -/
import Derived.Test.YthifgakeababmaaAm14
import Derived.Test.YthifgakeababmaaProg
import Derived.KernelRfl
namespace Go.Proofs.Ythifgakeababmaa.Fx
open Go Go.Am
theorem mixed : Try.prog.follows .mixedOrders = true := by kernel_rfl
noncomputable def q3 : TypeInfo := (Try.prog.info? 3).getD default
@[go_sem] theorem i3 : Try.prog.info? 3 = some q3 := by kernel_rfl
@[go_sem] theorem u3 : Try.prog.underlying 3 = some (Go.TypeDesc.int Go.IntKind.i64) := Try.underlying3
@[go_sem] theorem s3 : q3.size = 1 := by kernel_rfl
@[go_sem] theorem cl3 : Try.prog.cellsOf 3 = 1 := by kernel_rfl
@[go_sem] theorem b3 : q3.bytes = 8 := by kernel_rfl
@[go_sem] theorem z3 : aZero Try.prog 3 = some (.int .i64 0) := by kernel_rfl
noncomputable def q4 : TypeInfo := (Try.prog.info? 4).getD default
@[go_sem] theorem i4 : Try.prog.info? 4 = some q4 := by kernel_rfl
@[go_sem] theorem u4 : Try.prog.underlying 4 = some Go.TypeDesc.bool := Try.underlying4
@[go_sem] theorem s4 : q4.size = 1 := by kernel_rfl
@[go_sem] theorem cl4 : Try.prog.cellsOf 4 = 1 := by kernel_rfl
@[go_sem] theorem b4 : q4.bytes = 1 := by kernel_rfl
@[go_sem] theorem z4 : aZero Try.prog 4 = some (.bool false) := by kernel_rfl
noncomputable def q9 : TypeInfo := (Try.prog.info? 9).getD default
@[go_sem] theorem i9 : Try.prog.info? 9 = some q9 := by kernel_rfl
@[go_sem] theorem u9 : Try.prog.underlying 9 = some Go.TypeDesc.string := Try.underlying9
@[go_sem] theorem s9 : q9.size = 1 := by kernel_rfl
@[go_sem] theorem cl9 : Try.prog.cellsOf 9 = 1 := by kernel_rfl
@[go_sem] theorem b9 : q9.bytes = 16 := by kernel_rfl
@[go_sem] theorem z9 : aZero Try.prog 9 = some (.string ⟨#[]⟩) := by kernel_rfl
noncomputable def q27 : TypeInfo := (Try.prog.info? 27).getD default
@[go_sem] theorem i27 : Try.prog.info? 27 = some q27 := by kernel_rfl
@[go_sem] theorem u27 : Try.prog.underlying 27 = some (Go.TypeDesc.int Go.IntKind.i64) := Try.underlying27
@[go_sem] theorem s27 : q27.size = 1 := by kernel_rfl
@[go_sem] theorem cl27 : Try.prog.cellsOf 27 = 1 := by kernel_rfl
@[go_sem] theorem b27 : q27.bytes = 8 := by kernel_rfl
@[go_sem] theorem z27 : aZero Try.prog 27 = some (.int .i64 0) := by kernel_rfl
noncomputable def q49 : TypeInfo := (Try.prog.info? 49).getD default
@[go_sem] theorem i49 : Try.prog.info? 49 = some q49 := by kernel_rfl
@[go_sem] theorem u49 : Try.prog.underlying 49 = some (Go.TypeDesc.slice 3) := Try.underlying49
@[go_sem] theorem s49 : q49.size = 1 := by kernel_rfl
@[go_sem] theorem cl49 : Try.prog.cellsOf 49 = 1 := by kernel_rfl
@[go_sem] theorem b49 : q49.bytes = 24 := by kernel_rfl
@[go_sem] theorem z49 : aZero Try.prog 49 = some (.slice none 0 0) := by kernel_rfl
noncomputable def q55 : TypeInfo := (Try.prog.info? 55).getD default
@[go_sem] theorem i55 : Try.prog.info? 55 = some q55 := by kernel_rfl
@[go_sem] theorem u55 : Try.prog.underlying 55 = some (Go.TypeDesc.slice 60) := Try.underlying55
@[go_sem] theorem s55 : q55.size = 1 := by kernel_rfl
@[go_sem] theorem cl55 : Try.prog.cellsOf 55 = 1 := by kernel_rfl
@[go_sem] theorem b55 : q55.bytes = 24 := by kernel_rfl
@[go_sem] theorem z55 : aZero Try.prog 55 = some (.slice none 0 0) := by kernel_rfl
noncomputable def q57 : TypeInfo := (Try.prog.info? 57).getD default
@[go_sem] theorem i57 : Try.prog.info? 57 = some q57 := by kernel_rfl
@[go_sem] theorem u57 : Try.prog.underlying 57 =  some (Go.TypeDesc.struct #[{ name := "Nodes", type := 3, offset := 0, embedded := false, tag := "", pkgPath := "", byteOffset := 0 }, { name := "Links", type := 55, offset := 1, embedded := false, tag := "", pkgPath := "", byteOffset := 8 }]) := Try.underlying57
@[go_sem] theorem s57 : q57.size = 2 := by kernel_rfl
@[go_sem] theorem cl57 : Try.prog.cellsOf 57 = 2 := by kernel_rfl
@[go_sem] theorem b57 : q57.bytes = 32 := by kernel_rfl
@[go_sem] theorem z57 : aZero Try.prog 57 = some (.agg #[(.int .i64 0), (.slice none 0 0)]) := by kernel_rfl
noncomputable def q60 : TypeInfo := (Try.prog.info? 60).getD default
@[go_sem] theorem i60 : Try.prog.info? 60 = some q60 := by kernel_rfl
@[go_sem] theorem u60 : Try.prog.underlying 60 =  some (Go.TypeDesc.struct #[{ name := "A", type := 3, offset := 0, embedded := false, tag := "", pkgPath := "", byteOffset := 0 }, { name := "B", type := 3, offset := 1, embedded := false, tag := "", pkgPath := "", byteOffset := 8 }, { name := "Kind", type := 3, offset := 2, embedded := false, tag := "", pkgPath := "", byteOffset := 16 }, { name := "PrefA", type := 3, offset := 3, embedded := false, tag := "", pkgPath := "", byteOffset := 24 }, { name := "PrefB", type := 3, offset := 4, embedded := false, tag := "", pkgPath := "", byteOffset := 32 }]) := Try.underlying60
@[go_sem] theorem s60 : q60.size = 5 := by kernel_rfl
@[go_sem] theorem cl60 : Try.prog.cellsOf 60 = 5 := by kernel_rfl
@[go_sem] theorem b60 : q60.bytes = 40 := by kernel_rfl
@[go_sem] theorem z60 : aZero Try.prog 60 = some (.agg #[(.int .i64 0), (.int .i64 0), (.int .i64 0), (.int .i64 0), (.int .i64 0)]) := by kernel_rfl
noncomputable def q62 : TypeInfo := (Try.prog.info? 62).getD default
@[go_sem] theorem i62 : Try.prog.info? 62 = some q62 := by kernel_rfl
@[go_sem] theorem u62 : Try.prog.underlying 62 = some (Go.TypeDesc.slice 98) := Try.underlying62
@[go_sem] theorem s62 : q62.size = 1 := by kernel_rfl
@[go_sem] theorem cl62 : Try.prog.cellsOf 62 = 1 := by kernel_rfl
@[go_sem] theorem b62 : q62.bytes = 24 := by kernel_rfl
@[go_sem] theorem z62 : aZero Try.prog 62 = some (.slice none 0 0) := by kernel_rfl
noncomputable def q98 : TypeInfo := (Try.prog.info? 98).getD default
@[go_sem] theorem i98 : Try.prog.info? 98 = some q98 := by kernel_rfl
@[go_sem] theorem u98 : Try.prog.underlying 98 =  some (Go.TypeDesc.struct #[{ name := "Way", type := 49, offset := 0, embedded := false, tag := "", pkgPath := "", byteOffset := 0 }]) := Try.underlying98
@[go_sem] theorem s98 : q98.size = 1 := by kernel_rfl
@[go_sem] theorem cl98 : Try.prog.cellsOf 98 = 1 := by kernel_rfl
@[go_sem] theorem b98 : q98.bytes = 24 := by kernel_rfl
@[go_sem] theorem z98 : aZero Try.prog 98 = some (.agg #[(.slice none 0 0)]) := by kernel_rfl
noncomputable def q144 : TypeInfo := (Try.prog.info? 144).getD default
@[go_sem] theorem i144 : Try.prog.info? 144 = some q144 := by kernel_rfl
@[go_sem] theorem u144 : Try.prog.underlying 144 =  some (Go.TypeDesc.struct #[{ name := "kind", type := 3, offset := 0, embedded := false, tag := "", pkgPath := "patchbay/best", byteOffset := 0 }, { name := "pref", type := 3, offset := 1, embedded := false, tag := "", pkgPath := "patchbay/best", byteOffset := 8 }]) := Try.underlying144
@[go_sem] theorem s144 : q144.size = 2 := by kernel_rfl
@[go_sem] theorem cl144 : Try.prog.cellsOf 144 = 2 := by kernel_rfl
@[go_sem] theorem b144 : q144.bytes = 16 := by kernel_rfl
@[go_sem] theorem z144 : aZero Try.prog 144 = some (.agg #[(.int .i64 0), (.int .i64 0)]) := by kernel_rfl
noncomputable def q145 : TypeInfo := (Try.prog.info? 145).getD default
@[go_sem] theorem i145 : Try.prog.info? 145 = some q145 := by kernel_rfl
@[go_sem] theorem u145 : Try.prog.underlying 145 = some (Go.TypeDesc.array 16 144) := Try.underlying145
@[go_sem] theorem s145 : q145.size = 32 := by kernel_rfl
@[go_sem] theorem cl145 : Try.prog.cellsOf 145 = 32 := by kernel_rfl
@[go_sem] theorem b145 : q145.bytes = 256 := by kernel_rfl
/-- Many zero cells. -/
def zs145 : List Value := (List.replicate 32 [(.int .i64 0)]).flatten
theorem zs145_len : zs145.length = 32 := by kernel_rfl
@[go_sem] theorem z145 : aZero Try.prog 145 = some (.agg zs145.toArray) := by kernel_rfl
noncomputable def q146 : TypeInfo := (Try.prog.info? 146).getD default
@[go_sem] theorem i146 : Try.prog.info? 146 = some q146 := by kernel_rfl
@[go_sem] theorem u146 : Try.prog.underlying 146 = some (Go.TypeDesc.array 16 145) := Try.underlying146
@[go_sem] theorem s146 : q146.size = 512 := by kernel_rfl
@[go_sem] theorem cl146 : Try.prog.cellsOf 146 = 512 := by kernel_rfl
@[go_sem] theorem b146 : q146.bytes = 4096 := by kernel_rfl
/-- Many zero cells. -/
def zs146 : List Value := (List.replicate 512 [(.int .i64 0)]).flatten
theorem zs146_len : zs146.length = 512 := by kernel_rfl
@[go_sem] theorem z146 : aZero Try.prog 146 = some (.agg zs146.toArray) := by kernel_rfl
noncomputable def q149 : TypeInfo := (Try.prog.info? 149).getD default
@[go_sem] theorem i149 : Try.prog.info? 149 = some q149 := by kernel_rfl
@[go_sem] theorem u149 : Try.prog.underlying 149 = some (Go.TypeDesc.pointer 146) := Try.underlying149
@[go_sem] theorem s149 : q149.size = 1 := by kernel_rfl
@[go_sem] theorem cl149 : Try.prog.cellsOf 149 = 1 := by kernel_rfl
@[go_sem] theorem b149 : q149.bytes = 8 := by kernel_rfl
@[go_sem] theorem z149 : aZero Try.prog 149 = some (.pointer none) := by kernel_rfl
noncomputable def q151 : TypeInfo := (Try.prog.info? 151).getD default
@[go_sem] theorem i151 : Try.prog.info? 151 = some q151 := by kernel_rfl
@[go_sem] theorem u151 : Try.prog.underlying 151 =  some (Go.TypeDesc.func #[98, 98] #[4] false) := Try.underlying151
@[go_sem] theorem s151 : q151.size = 1 := by kernel_rfl
@[go_sem] theorem cl151 : Try.prog.cellsOf 151 = 1 := by kernel_rfl
@[go_sem] theorem b151 : q151.bytes = 8 := by kernel_rfl
@[go_sem] theorem z151 : aZero Try.prog 151 = some (.nilFunc) := by kernel_rfl
noncomputable def q165 : TypeInfo := (Try.prog.info? 165).getD default
@[go_sem] theorem i165 : Try.prog.info? 165 = some q165 := by kernel_rfl
@[go_sem] theorem u165 : Try.prog.underlying 165 = some (Go.TypeDesc.slice 49) := Try.underlying165
@[go_sem] theorem s165 : q165.size = 1 := by kernel_rfl
@[go_sem] theorem cl165 : Try.prog.cellsOf 165 = 1 := by kernel_rfl
@[go_sem] theorem b165 : q165.bytes = 24 := by kernel_rfl
@[go_sem] theorem z165 : aZero Try.prog 165 = some (.slice none 0 0) := by kernel_rfl
noncomputable def q174 : TypeInfo := (Try.prog.info? 174).getD default
@[go_sem] theorem i174 : Try.prog.info? 174 = some q174 := by kernel_rfl
@[go_sem] theorem u174 : Try.prog.underlying 174 = some (Go.TypeDesc.func #[60] #[4] false) := Try.underlying174
@[go_sem] theorem s174 : q174.size = 1 := by kernel_rfl
@[go_sem] theorem cl174 : Try.prog.cellsOf 174 = 1 := by kernel_rfl
@[go_sem] theorem b174 : q174.bytes = 8 := by kernel_rfl
@[go_sem] theorem z174 : aZero Try.prog 174 = some (.nilFunc) := by kernel_rfl
@[go_sem] theorem c133 : callable Try.prog 133 = true := by kernel_rfl
@[go_sem] theorem c107 : callable Try.prog 107 = true := by kernel_rfl
@[go_sem] theorem c57 : callable Try.prog 57 = true := by kernel_rfl
@[go_sem] theorem c119 : callable Try.prog 119 = true := by kernel_rfl
@[go_sem] theorem c120 : callable Try.prog 120 = true := by kernel_rfl
@[go_sem] theorem c85 : callable Try.prog 85 = true := by kernel_rfl
@[go_sem] theorem c130 : callable Try.prog 130 = true := by kernel_rfl
@[go_sem] theorem c103 : callable Try.prog 103 = true := by kernel_rfl
@[go_sem] theorem c131 : callable Try.prog 131 = true := by kernel_rfl
@[go_sem] theorem c104 : callable Try.prog 104 = true := by kernel_rfl
@[go_sem] theorem c140 : callable Try.prog 140 = true := by kernel_rfl
@[go_sem] theorem c121 : callable Try.prog 121 = true := by kernel_rfl
@[go_sem] theorem c86 : callable Try.prog 86 = true := by kernel_rfl
@[go_sem] theorem c87 : callable Try.prog 87 = true := by kernel_rfl
@[go_sem] theorem c33 : callable Try.prog 33 = true := by kernel_rfl
@[go_sem] theorem c30 : callable Try.prog 30 = true := by kernel_rfl
@[go_sem] theorem c31 : callable Try.prog 31 = true := by kernel_rfl
@[go_sem] theorem c32 : callable Try.prog 32 = true := by kernel_rfl
@[go_sem] theorem c90 : callable Try.prog 90 = true := by kernel_rfl
@[go_sem] theorem c91 : callable Try.prog 91 = true := by kernel_rfl
@[go_sem] theorem c34 : callable Try.prog 34 = true := by kernel_rfl
@[go_sem] theorem c68 : callable Try.prog 68 = true := by kernel_rfl
@[go_sem] theorem c35 : callable Try.prog 35 = true := by kernel_rfl
@[go_sem] theorem c6 : callable Try.prog 6 = true := by kernel_rfl
@[go_sem] theorem c108 : callable Try.prog 108 = true := by kernel_rfl
@[go_sem] theorem c88 : callable Try.prog 88 = true := by kernel_rfl
@[go_sem] theorem c89 : callable Try.prog 89 = true := by kernel_rfl
end Go.Proofs.Ythifgakeababmaa.Fx
