/- Facts about further functions, by computation. -/
import Derived.Test.YthifgakeababmaaFxBest
namespace Go.Proofs.Ythifgakeababmaa.Fx
open Go Go.Am
@[go_sem] theorem c56 : callable Try.prog 56 = true := by kernel_rfl
@[go_sem] theorem c58 : callable Try.prog 58 = true := by kernel_rfl
@[go_sem] theorem c109 : callable Try.prog 109 = true := by kernel_rfl
@[go_sem] theorem c59 : callable Try.prog 59 = true := by kernel_rfl
@[go_sem] theorem c9 : callable Try.prog 9 = true := by kernel_rfl
end Go.Proofs.Ythifgakeababmaa.Fx
