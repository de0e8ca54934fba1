/-
Phasors of 64ths of turns and their angles: what the program's functions give, as values.
-/
import Derived.Test.YtiabbafmjgiobaaWp
import Derived.Test.YtiabbafmjgiobaaWo
import Derived.Test.YtiabbafmjgiobaaAt
set_option linter.unusedVariables false
set_option linter.unusedSimpArgs false
namespace Go.Proofs.Ytiabbafmjgiobaa
open Fl Go Go.RowKit

/-- the fraction of a turn and its quarter -/
def fr64 (m : Nat) : Nat := fdiv (floatOfInt .f64 (m : Int)) 4634204016564240384
def ph64 (m : Nat) : Option Nat × Option Nat :=
  let f := fr64 m
  let n := m / 16
  (cvf .f64 .f32 (some (phR n (sinW (fsub 4598175219545276416 (qs f n))) (sinW (qs f n)))), cvf .f64 .f32 (some (phI n (sinW (fsub 4598175219545276416 (qs f n))) (sinW (qs f n)))))
def wid (x : Nat) : Nat := (floatToFloatBits .f32 x .f64).getD 0
def nar (x : Nat) : Nat := (floatToFloatBits .f64 x .f32).getD 0
/-- the angle of two numbers that are not zero both -/
def angT (ry rx : Nat) : Nat := if rx < ry then fdiv rx ry else fdiv ry rx
def angX (y x : Nat) : Nat := ang3 (FloatKind.f32.format.order y 0 == some .lt) (ang2 (FloatKind.f32.format.order x 0 == some .lt) (ang1 (decide (wid x % 9223372036854775808 < wid y % 9223372036854775808)) (ang0 (halfT (angT (wid y % 9223372036854775808) (wid x % 9223372036854775808)) 3))))
def gapN (a b : Nat) : Nat := if FloatKind.f64.format.order a b == some .lt then fsub b a else fsub a b
def isFnt (x : Nat) : Bool := match Ieee.double.read x with
  | .number _ _ _ => true
  | _ => false
theorem fnt_of {x : Nat} (h : isFnt x = true) : Fnt x := by
  unfold isFnt at h
  cases hd : Ieee.double.read x with
  | number s m e => exact ⟨s, m, e, hd⟩
  | nan => rw [hd] at h; cases h
  | infinity s => rw [hd] at h; cases h
end Go.Proofs.Ytiabbafmjgiobaa
