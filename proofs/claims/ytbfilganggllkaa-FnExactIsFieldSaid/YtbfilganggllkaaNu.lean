/-
Contracts of the small functions on floats: what each gives, as a function of the value of its arguments.
-/
import Derived.Test.YtbfilganggllkaaChecked
import Derived.Test.YtbfilganggllkaaFl
namespace Go.Proofs.Ytbfilganggllkaa
open Fl

/-- a bool; the world is as it was but for draws -/
def RB (b : Bool) (w : World) (e : Ending) (w' : World) : Prop := e = .returned (.bool b) ∧ ∃ n, w' = w.drewN n
/-- an integer; the world is as it was but for draws -/
def RI (i : Int) (w : World) (e : Ending) (w' : World) : Prop := e = .returned (.int .i64 i) ∧ ∃ n, w' = w.drewN n
/-- a float of a value -/
def RF (k : FloatKind) (v : Option Nat) (w : World) (e : Ending) (w' : World) : Prop := ∃ r, RV k v r ∧ e = .returned (.float k r) ∧ ∃ n, w' = w.drewN n

@[go_sem] theorem x_f32bits (b : Nat) (w : World) : (callFunc 56 #[.float .f32 b]).run Try.prog w = .ok (.value (.int .u32 b)) w := by
  rw [run_callFunc_extern Try.func56 (by kernel_rfl) (by kernel_rfl) (by kernel_rfl) (e := Extern.MathFloatBits.float32bits) (by kernel_rfl)]; rfl
@[go_sem] theorem x_f64bits (b : Nat) (w : World) : (callFunc 55 #[.float .f64 b]).run Try.prog w = .ok (.value (.int .u64 b)) w := by
  rw [run_callFunc_extern Try.func55 (by kernel_rfl) (by kernel_rfl) (by kernel_rfl) (e := Extern.MathFloatBits.float64bits) (by kernel_rfl)]; rfl

def isFin (a : Option Nat) : Bool := ordf .f32 (opf .sub .f32 a a) (some 0) == some .eq


theorem ret_bool {a b : Bool} (h : a = b) : Ending.returned (.bool a) = .returned (.bool b) := by rw [h]
theorem ret_int {k : IntKind} {a b : Int} (h : a = b) : Ending.returned (.int k a) = .returned (.int k b) := by rw [h]

/-- the bits that are told of a float32 -/
def bitsOf (x : Nat) : Int := if (fv .f32 x).isSome then (x : Int) else 2143289344

theorem ne_self (k : FloatKind) (x : Nat) : (k.format.order x x != some .eq) = !(fv k x).isSome := by
  unfold bne
  rw [order_fv, ordf_self k _ ⟨x, rfl⟩]
theorem rv64 {v : Option Nat} {r : Nat} (h : RV .f64 v r) : r < 18446744073709551616 := h.2
theorem rv32 {v : Option Nat} {r : Nat} (h : RV .f32 v r) : r < 4294967296 := h.2
theorem wf32 {x : Nat} (h : (Lit.float .f32 x).wf = true) : x < 4294967296 := wf_lt h
theorem wf64 {x : Nat} (h : (Lit.float .f64 x).wf = true) : x < 18446744073709551616 := wf_lt h

theorem c_l01Bits (x : Nat) (hx : x < 4294967296) (w : World) : Calls Try.prog 54 #[.float .f32 x] w fun e w' => e = .returned (.int .i64 (bitsOf x)) ∧ w = w' := by
  have hn := ne_self .f32 x
  unfold bitsOf
  cases h : (fv .f32 x).isSome
  · rw [h] at hn
    clear h
    go_enter Try.func54, Try.ntmps54
    go_wp2
    go_ret
    exact ⟨rfl, rfl⟩
  · rw [h] at hn
    clear h
    go_enter Try.func54, Try.ntmps54
    go_wp2
    go_ret
    exact ⟨rfl, rfl⟩

/-- two float32 are the same number -/
def sameV (x y : Nat) : Bool := bitsOf x == bitsOf y
theorem c_l01Same (x y : Nat) (hx : x < 4294967296) (hy : y < 4294967296) (w : World) : Calls Try.prog 51 #[.float .f32 x, .float .f32 y] w fun e w' => e = .returned (.bool (sameV x y)) ∧ w = w' := by
  go_enter Try.func51, Try.ntmps51
  go_wp2_with (go_at_call 54; refine (c_l01Bits _ (by first | exact hx | exact hy) _).mono ?_; rintro e w' ⟨rfl, rfl⟩)
  go_ret
  exact ⟨rfl, rfl⟩
theorem c_signbit (r : Nat) (hr : r < 18446744073709551616) (w : World) : Calls Try.prog 53 #[.float .f64 r] w fun e w' => e = .returned (.bool (decide (9223372036854775808 ≤ r))) ∧ w = w' := by
  go_enter Try.func53, Try.ntmps53
  go_wp2
  go_ret
  refine ⟨ret_bool ?_, rfl⟩
  rw [decide_eq_decide]
  unfold RowKit.wrap64
  omega

/-- spec's test on the exponent's bits -/
def subV (x : Nat) : Bool := (fv .f32 x).isSome && decide (0 < x % 2147483648) && decide (x % 2147483648 < 8388608)

theorem neq_zero (x : Nat) (hx : x < 4294967296) : (FloatKind.f32.format.order x 0 != some .eq) = !((fv .f32 x).isSome && decide (x % 2147483648 = 0)) := by
  by_cases hn : (FloatKind.f32.decode x).isNaN = true
  · rw [order_fv, fv_none.2 hn]; rfl
  · have hn' : (FloatKind.f32.decode x).isNaN = false := by simpa using hn
    rw [fv_some.2 ⟨hn', rfl⟩]
    have e : Ieee.single.signWeight = 2147483648 := rfl
    have hle := rung_le_of_not_nan Ieee.single (by decide) x hn'
    have hw := word_of Ieee.single x hx
    rw [e] at hle hw
    unfold bne
    simp only [Option.isSome_some, Bool.true_and]
    congr 1
    have ho : FloatKind.f32.format.order x 0 = some (compare (if (x / 2147483648 % 2 == 1) then -(un Ieee.single (x % 2147483648) : Int) else (un Ieee.single (x % 2147483648) : Int)) 0) ∨ x % 2147483648 = Ieee.single.infRung := by
      rcases Nat.lt_or_eq_of_le hle with h | h
      · refine .inl ?_
        have hr := read_rung Ieee.single x (by rw [e]; exact h)
        rw [e] at hr
        have h0 : Ieee.single.read 0 = .number false (sig Ieee.single 0) (Ieee.single.leastPlace + (exq Ieee.single 0 : Nat)) := rfl
        show (Ieee.single.read x).order (Ieee.single.read 0) = _
        rw [hr, h0, order_number]
        rfl
      · exact .inr h
    rcases ho with ho | ho
    · rw [ho]
      have hu : un Ieee.single (x % 2147483648) = 0 ↔ x % 2147483648 = 0 := by
        constructor
        · intro h; exact un_inj Ieee.single (h.trans (un_small Ieee.single (by decide)).symm)
        · intro h; rw [h]; rfl
      rw [Bool.eq_iff_iff]
      simp only [beq_iff_eq, decide_eq_true_eq, Option.some.injEq]
      rw [← hu]
      generalize un Ieee.single (x % 2147483648) = u
      simp only [compare, compareOfLessAndEq]
      split <;> split <;> simp <;> omega
    · have hd : (decide (x % 2147483648 = 0)) = false := by rw [ho]; rfl
      rw [hd]
      show ((Ieee.single.read x).order (Ieee.single.read 0) == some .eq) = false
      rw [hw, ho, read_inf Ieee.single _ (by decide)]
      cases (x / 2147483648 % 2 == 1) <;> rfl



theorem word_sign_b (s : Bool) {r : Nat} (h : r ≤ Ieee.double.infRung) : decide (9223372036854775808 ≤ Ieee.double.word s r) = s := by
  have := word_sign s h
  cases s <;> simp_all

theorem bits_ne_nan {x : Nat} (h : (FloatKind.f32.decode x).isNaN = false) : ((2143289344 : Int) == (x : Int)) = false ∧ ((x : Int) == (2143289344 : Int)) = false := by
  have hne : x ≠ 2143289344 := by intro e; subst e; revert h; decide
  constructor
  · rw [beq_eq_false_iff_ne]; omega
  · rw [beq_eq_false_iff_ne]; omega

theorem c_implSameNumber (x y : Nat) (hx : x < 4294967296) (hy : y < 4294967296) (w : World) : Calls Try.prog 49 #[.float .f32 x, .float .f32 y] w (RB (sameV x y) w) := by
  have hnx := ne_self .f32 x
  have hny := ne_self .f32 y
  unfold sameV bitsOf
  by_cases nx : (FloatKind.f32.decode x).isNaN = true
  · rw [fv_none.2 nx] at hnx ⊢
    by_cases ny : (FloatKind.f32.decode y).isNaN = true
    · rw [fv_none.2 ny] at hny ⊢
      clear nx ny
      go_enter Try.func49, Try.ntmps49
      go_wp2_with fail
      go_ret
      exact ⟨rfl, 0, rfl⟩
    · have ny' : (FloatKind.f32.decode y).isNaN = false := by simpa using ny
      have hb := (bits_ne_nan ny').1
      rw [fv_some.2 ⟨ny', rfl⟩] at hny ⊢
      clear nx ny ny'
      go_enter Try.func49, Try.ntmps49
      go_wp2_with fail
      go_ret
      exact ⟨ret_bool (by first | rfl | (simp; done) | (simp [hb]; done)), 0, rfl⟩
  · have nx' : (FloatKind.f32.decode x).isNaN = false := by simpa using nx
    rw [fv_some.2 ⟨nx', rfl⟩] at hnx ⊢
    by_cases ny : (FloatKind.f32.decode y).isNaN = true
    · rw [fv_none.2 ny] at hny ⊢
      have hb := (bits_ne_nan nx').2
      clear nx ny nx'
      go_enter Try.func49, Try.ntmps49
      go_wp2_with fail
      go_ret
      exact ⟨ret_bool (by first | rfl | (simp; done) | (simp [hb]; done)), 0, rfl⟩
    · have ny' : (FloatKind.f32.decode y).isNaN = false := by simpa using ny
      rw [fv_some.2 ⟨ny', rfl⟩] at hny ⊢
      have key : ∀ r r', RV .f64 (cvf .f32 .f64 (fv .f32 x)) r → RV .f64 (cvf .f32 .f64 (fv .f32 y)) r' → (FloatKind.f32.format.order x y == some .eq) = true → (decide (9223372036854775808 ≤ r) == decide (9223372036854775808 ≤ r')) = ((x : Int) == (y : Int)) := by
        intro r r' hr hr' ho
        obtain ⟨a, a1, a2, _, _⟩ := widen_word hx nx'
        obtain ⟨b, b1, b2, _, _⟩ := widen_word hy ny'
        have e1 : r = _ := (fv_some.1 (hr.1.trans a2)).2
        have e2 : r' = _ := (fv_some.1 (hr'.1.trans b2)).2
        rw [e1, e2, word_sign_b _ a1, word_sign_b _ b1]
        rw [Bool.eq_iff_iff]
        simp only [beq_iff_eq]
        constructor
        · intro hs
          have h2 := order_eq_same (f := Ieee.single) (by decide) hx hy nx' ny' (by rw [sign_single hx, sign_single hy]; exact hs)
          have h3 : (x == y) = true := h2.symm.trans ho
          have : x = y := by simpa using h3
          omega
        · intro hs
          have : x = y := by omega
          rw [this]
      have KEY : RowKit.Hid _ := key
      clear key
      cases ho : (FloatKind.f32.format.order x y == some .eq)
      · have hb : ((x : Int) == (y : Int)) = false := by
          rw [beq_eq_false_iff_ne]
          intro e
          have e' : x = y := by omega
          subst e'
          rw [order_self .f32 x nx'] at ho
          cases ho
        clear nx ny nx' ny' KEY
        go_enter Try.func49, Try.ntmps49
        go_wp2_with fail
        go_ret
        exact ⟨ret_bool (by first | rfl | (simp; done) | (simp [hb]; done)), 0, rfl⟩
      · clear nx ny nx' ny'
        go_enter Try.func49, Try.ntmps49
        go_wp2_with (first | ((with_reducible refine upon_widen Try.underlying38 Try.underlying64 hx ?_); intro r n hr) | ((with_reducible refine upon_widen Try.underlying38 Try.underlying64 hy ?_); intro r' n hr') | (go_at_call 53; refine (c_signbit _ (by first | exact rv64 (by assumption)) _).mono ?_; rintro e w' ⟨rfl, rfl⟩))
        go_ret
        exact ⟨ret_bool (KEY.out _ _ (by assumption) (by assumption) ho), _, rfl⟩

end Go.Proofs.Ytbfilganggllkaa
