/-
The pairs' check of tenths, first part.
-/
import Derived.Test.YtiabbafmjgiobaaTo
namespace Go.Proofs.Ytiabbafmjgiobaa.Fl
open Go Ieee
theorem rows0 : chkRows 0 50 = true := by kernel_rfl
theorem rows1 : chkRows 50 40 = true := by kernel_rfl
end Go.Proofs.Ytiabbafmjgiobaa.Fl
