/-
The pairs' check of tenths, second part.
-/
import Derived.Test.YtiabbafmjgiobaaTo
namespace Go.Proofs.Ytiabbafmjgiobaa.Fl
open Go Ieee
theorem rows2 : chkRows 90 60 = true := by kernel_rfl
theorem rows3 : chkRows 150 50 = true := by kernel_rfl
end Go.Proofs.Ytiabbafmjgiobaa.Fl
