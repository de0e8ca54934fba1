/-
The products of the table's phasors, rows 32 to 39: by computation.
-/
import Derived.Test.YtiabbafmjgiobaaCh
namespace Go.Proofs.Ytiabbafmjgiobaa
open Fl Go Go.RowKit
theorem rowsM4 : (List.range 8).all (fun j => mulRow (32 + j)) = true := by kernel_rfl
end Go.Proofs.Ytiabbafmjgiobaa
