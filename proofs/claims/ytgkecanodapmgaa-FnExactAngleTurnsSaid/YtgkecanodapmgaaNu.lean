/-
Contracts of the small functions on floats: what each gives, as a function of the value of its arguments.
-/
import Derived.Test.YtgkecanodapmgaaChecked
import Derived.Test.YtgkecanodapmgaaFl
namespace Go.Proofs.Ytgkecanodapmgaa
open Fl

/-- a bool; the world is as it was but for draws -/
def RB (b : Bool) (w : World) (e : Ending) (w' : World) : Prop := e = .returned (.bool b) ∧ ∃ n, w' = w.drewN n
/-- an integer; the world is as it was but for draws -/
def RI (i : Int) (w : World) (e : Ending) (w' : World) : Prop := e = .returned (.int .i64 i) ∧ ∃ n, w' = w.drewN n
/-- a float of a value -/
def RF (k : FloatKind) (v : Option Nat) (w : World) (e : Ending) (w' : World) : Prop := ∃ r, RV k v r ∧ e = .returned (.float k r) ∧ ∃ n, w' = w.drewN n

@[go_sem] theorem x_f32bits (b : Nat) (w : World) : (callFunc 69 #[.float .f32 b]).run Try.prog w = .ok (.value (.int .u32 b)) w := by
  rw [run_callFunc_extern Try.func69 (by kernel_rfl) (by kernel_rfl) (by kernel_rfl) (e := Extern.MathFloatBits.float32bits) (by kernel_rfl)]; rfl
@[go_sem] theorem x_f64bits (b : Nat) (w : World) : (callFunc 61 #[.float .f64 b]).run Try.prog w = .ok (.value (.int .u64 b)) w := by
  rw [run_callFunc_extern Try.func61 (by kernel_rfl) (by kernel_rfl) (by kernel_rfl) (e := Extern.MathFloatBits.float64bits) (by kernel_rfl)]; rfl
@[go_sem] theorem x_f64from (b : Int) (w : World) : (callFunc 60 #[.int .u64 b]).run Try.prog w = .ok (.value (.float .f64 b.toNat)) w := by
  rw [run_callFunc_extern Try.func60 (by kernel_rfl) (by kernel_rfl) (by kernel_rfl) (e := Extern.MathFloatBits.float64frombits) (by kernel_rfl)]; rfl

def isFin (a : Option Nat) : Bool := ordf .f32 (opf .sub .f32 a a) (some 0) == some .eq

theorem c_l01Finite (x : Nat) (w : World) : Calls Try.prog 54 #[.float .f32 x] w (RB (isFin (fv .f32 x)) w) := by
  go_enter Try.func54, Try.ntmps54
  go_wp2_with ((with_reducible refine upon_fbin ?_ ?_); exact rfl; intro r n hr)
  go_ret
  exact ⟨by rw [order_fv, hr.1]; rfl, _, rfl⟩
theorem c_implIsFinite (x : Nat) (w : World) : Calls Try.prog 45 #[.float .f32 x] w (RB (isFin (fv .f32 x)) w) := by
  go_enter Try.func45, Try.ntmps45
  go_wp2_with ((with_reducible refine upon_fbin ?_ ?_); exact rfl; intro r n hr)
  go_ret
  exact ⟨by rw [order_fv, hr.1]; rfl, _, rfl⟩

theorem ret_bool {a b : Bool} (h : a = b) : Ending.returned (.bool a) = .returned (.bool b) := by rw [h]
theorem ret_int {k : IntKind} {a b : Int} (h : a = b) : Ending.returned (.int k a) = .returned (.int k b) := by rw [h]

/-- the bits that are told of a float32 -/
def bitsOf (x : Nat) : Int := if (fv .f32 x).isSome then (x : Int) else 2143289344

theorem ne_self (k : FloatKind) (x : Nat) : (k.format.order x x != some .eq) = !(fv k x).isSome := by
  unfold bne
  rw [order_fv, ordf_self k _ ⟨x, rfl⟩]
theorem rv64 {v : Option Nat} {r : Nat} (h : RV .f64 v r) : r < 18446744073709551616 := h.2
theorem rv32 {v : Option Nat} {r : Nat} (h : RV .f32 v r) : r < 4294967296 := h.2
theorem wf32 {x : Nat} (h : (Lit.float .f32 x).wf = true) : x < 4294967296 := wf_lt h
theorem wf64 {x : Nat} (h : (Lit.float .f64 x).wf = true) : x < 18446744073709551616 := wf_lt h

theorem c_l01Bits (x : Nat) (hx : x < 4294967296) (w : World) : Calls Try.prog 59 #[.float .f32 x] w fun e w' => e = .returned (.int .i64 (bitsOf x)) ∧ w = w' := by
  have hn := ne_self .f32 x
  unfold bitsOf
  cases h : (fv .f32 x).isSome
  · rw [h] at hn
    clear h
    go_enter Try.func59, Try.ntmps59
    go_wp2
    go_ret
    exact ⟨rfl, rfl⟩
  · rw [h] at hn
    clear h
    go_enter Try.func59, Try.ntmps59
    go_wp2
    go_ret
    exact ⟨rfl, rfl⟩

/-- two float32 are the same number -/
def sameV (x y : Nat) : Bool := bitsOf x == bitsOf y
theorem c_abs (r : Nat) (hr : r < 18446744073709551616) (w : World) : Calls Try.prog 47 #[.float .f64 r] w fun e w' => e = .returned (.float .f64 (r % 9223372036854775808)) ∧ w = w' := by
  have ha := u64_abs r hr
  go_enter Try.func47, Try.ntmps47
  go_wp2
  go_ret
  exact ⟨rfl, rfl⟩

/-- spec's test on the exponent's bits -/
def subV (x : Nat) : Bool := (fv .f32 x).isSome && decide (0 < x % 2147483648) && decide (x % 2147483648 < 8388608)

theorem neq_zero (x : Nat) (hx : x < 4294967296) : (FloatKind.f32.format.order x 0 != some .eq) = !((fv .f32 x).isSome && decide (x % 2147483648 = 0)) := by
  by_cases hn : (FloatKind.f32.decode x).isNaN = true
  · rw [order_fv, fv_none.2 hn]; rfl
  · have hn' : (FloatKind.f32.decode x).isNaN = false := by simpa using hn
    rw [fv_some.2 ⟨hn', rfl⟩]
    have e : Ieee.single.signWeight = 2147483648 := rfl
    have hle := rung_le_of_not_nan Ieee.single (by decide) x hn'
    have hw := word_of Ieee.single x hx
    rw [e] at hle hw
    unfold bne
    simp only [Option.isSome_some, Bool.true_and]
    congr 1
    have ho : FloatKind.f32.format.order x 0 = some (compare (if (x / 2147483648 % 2 == 1) then -(un Ieee.single (x % 2147483648) : Int) else (un Ieee.single (x % 2147483648) : Int)) 0) ∨ x % 2147483648 = Ieee.single.infRung := by
      rcases Nat.lt_or_eq_of_le hle with h | h
      · refine .inl ?_
        have hr := read_rung Ieee.single x (by rw [e]; exact h)
        rw [e] at hr
        have h0 : Ieee.single.read 0 = .number false (sig Ieee.single 0) (Ieee.single.leastPlace + (exq Ieee.single 0 : Nat)) := rfl
        show (Ieee.single.read x).order (Ieee.single.read 0) = _
        rw [hr, h0, order_number]
        rfl
      · exact .inr h
    rcases ho with ho | ho
    · rw [ho]
      have hu : un Ieee.single (x % 2147483648) = 0 ↔ x % 2147483648 = 0 := by
        constructor
        · intro h; exact un_inj Ieee.single (h.trans (un_small Ieee.single (by decide)).symm)
        · intro h; rw [h]; rfl
      rw [Bool.eq_iff_iff]
      simp only [beq_iff_eq, decide_eq_true_eq, Option.some.injEq]
      rw [← hu]
      generalize un Ieee.single (x % 2147483648) = u
      simp only [compare, compareOfLessAndEq]
      split <;> split <;> simp <;> omega
    · have hd : (decide (x % 2147483648 = 0)) = false := by rw [ho]; rfl
      rw [hd]
      show ((Ieee.single.read x).order (Ieee.single.read 0) == some .eq) = false
      rw [hw, ho, read_inf Ieee.single _ (by decide)]
      cases (x / 2147483648 % 2 == 1) <;> rfl


theorem abs_nan (r : Nat) (c : Nat) (h : fv .f64 r = none) : (FloatKind.f64.format.order (r % 9223372036854775808) c == some .lt) = false := by
  have h1 := fv_none.1 h
  have h2 : (FloatKind.f64.decode (r % 9223372036854775808)).isNaN = true := by
    have e : Ieee.double.signWeight = 9223372036854775808 := rfl
    show (Ieee.double.read _).isNaN = true
    have h3 : (Ieee.double.read r).isNaN = true := h1
    unfold Ieee.Format.read at h3 ⊢
    dsimp only at h3 ⊢
    rw [e] at h3 ⊢
    rw [Nat.mod_mod]
    split at h3
    · cases h3
    · rw [if_neg (by assumption)]
      split at h3
      · cases h3
      · rw [if_neg (by assumption)]
        split at h3
        · cases h3
        · rw [if_neg (by assumption)]; rfl
  rw [order_fv, fv_none.2 h2]; rfl

theorem c_implIsSubnormal (x : Nat) (hx : x < 4294967296) (w : World) : Calls Try.prog 39 #[.float .f32 x] w (RB (subV x) w) := by
  have hz := neq_zero x hx
  have key : ∀ r, RV .f64 (cvf .f32 .f64 (fv .f32 x)) r → (FloatKind.f64.format.order (r % 9223372036854775808) 4039728865751334912 == some .lt) = ((fv .f32 x).isSome && decide (x % 2147483648 < 8388608)) := by
    intro r hr
    by_cases hn : (FloatKind.f32.decode x).isNaN = true
    · rw [fv_none.2 hn] at hr ⊢
      exact abs_nan r _ hr.1
    · have hn' : (FloatKind.f32.decode x).isNaN = false := by simpa using hn
      rw [subnormal_bits hx hr hn', fv_some.2 ⟨hn', rfl⟩]; rfl
  unfold subV
  cases h : (fv .f32 x).isSome <;> rw [h] at hz key
  · have KEY : RowKit.Hid _ := key
    clear key
    clear h
    go_enter Try.func39, Try.ntmps39
    go_wp2_with (first | ((with_reducible refine upon_widen Try.underlying22 Try.underlying26 hx ?_); intro r n hr) | (go_at_call 47; refine (c_abs _ (rv64 hr) _).mono ?_; rintro e w' ⟨rfl, rfl⟩))
    go_ret
    exact ⟨ret_bool (KEY.out _ (by assumption)), _, rfl⟩
  · have KEY : RowKit.Hid _ := key
    clear key h
    by_cases h0 : x % 2147483648 = 0
    · rw [decide_eq_true h0] at hz
      have e : (true && decide (0 < x % 2147483648) && decide (x % 2147483648 < 8388608)) = false := by rw [h0]; rfl
      rw [e]
      clear h0 e
      go_enter Try.func39, Try.ntmps39
      go_wp2_with (first | ((with_reducible refine upon_widen Try.underlying22 Try.underlying26 hx ?_); intro r n hr) | (go_at_call 47; refine (c_abs _ (rv64 hr) _).mono ?_; rintro e w' ⟨rfl, rfl⟩))
      go_ret
      exact ⟨rfl, 0, rfl⟩
    · rw [decide_eq_false h0] at hz
      have e : (true && decide (0 < x % 2147483648) && decide (x % 2147483648 < 8388608)) = (true && decide (x % 2147483648 < 8388608)) := by rw [decide_eq_true (by omega)]; rfl
      rw [e]
      clear h0 e
      go_enter Try.func39, Try.ntmps39
      go_wp2_with (first | ((with_reducible refine upon_widen Try.underlying22 Try.underlying26 hx ?_); intro r n hr) | (go_at_call 47; refine (c_abs _ (rv64 hr) _).mono ?_; rintro e w' ⟨rfl, rfl⟩))
      go_ret
      exact ⟨ret_bool (KEY.out _ (by assumption)), _, rfl⟩


end Go.Proofs.Ytgkecanodapmgaa
