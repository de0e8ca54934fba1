/-
Contracts and the walk of the law on FlushNumber.
-/
import Derived.Test.YtgkecanodapmgaaWc
namespace Go.Proofs.Ytgkecanodapmgaa
open Fl Go.RowKit

/-- a number, a zero of its sign if it is subnormal -/
def flushV (x : Nat) : Option Nat := if ((fv .f32 x).isSome && decide (x % 2147483648 < 8388608)) = true then some (x / 2147483648 * 2147483648) else fv .f32 x

theorem and_bit (a k : Nat) : a &&& 2 ^ k = a / 2 ^ k % 2 * 2 ^ k := by
  apply Nat.eq_of_testBit_eq
  intro i
  have e : a / 2 ^ k % 2 * 2 ^ k = (a / 2 ^ k % 2 ^ 1) * 2 ^ k := by rw [Nat.pow_one]
  rw [e, Nat.testBit_and, Nat.testBit_two_pow, Nat.testBit_mul_two_pow, Nat.testBit_mod_two_pow, Nat.testBit_div_two_pow]
  by_cases h : k = i
  · subst h; simp
  · by_cases h2 : k ≤ i
    · have : ¬ i - k < 1 := by omega
      simp [h, this]
    · simp [h, h2]

theorem and_sign (x : Nat) (hx : x < 4294967296) : bits .and .i64 (x : Int) 2147483648 = ((x / 2147483648 * 2147483648 : Nat) : Int) := by
  have h := i64_and_nat x 2147483648 (by omega) (by decide)
  rw [show ((2147483648 : Nat) : Int) = 2147483648 from rfl] at h
  have e : x &&& 2147483648 = x / 2147483648 % 2 * 2147483648 := and_bit x 31
  rw [h, e]
  omega
theorem u64_sign (x : Nat) (hx : x < 18446744073709551616) : bits .and .u64 (x : Int) 9223372036854775808 = ((x / 9223372036854775808 * 9223372036854775808 : Nat) : Int) := by
  have h := bits_and_u64_nat x 9223372036854775808 hx (by decide)
  rw [show ((9223372036854775808 : Nat) : Int) = 9223372036854775808 from rfl] at h
  have e : x &&& 9223372036854775808 = x / 9223372036854775808 % 2 * 9223372036854775808 := and_bit x 63
  rw [h, e]
  omega
theorem u64_or0 (x : Nat) (hx : x < 18446744073709551616) : bits .or .u64 0 (x : Int) = (x : Int) := by
  have h := bits_or_u64_nat 0 x (by decide) hx
  rw [show ((0 : Nat) : Int) = 0 from rfl] at h
  rw [h, Nat.zero_or]

theorem c_l01Flush (x : Nat) (hx : x < 4294967296) (w : World) : Calls Try.prog 38 #[.float .f32 x] w (RF .f32 (flushV x) w) := by
  have hb : (bits .and .i64 (bitsOf x) 2139095040 == 0) = ((fv .f32 x).isSome && decide (x % 2147483648 < 8388608)) := by
    unfold bitsOf
    cases (fv .f32 x).isSome
    · exact (by decide : (bits .and .i64 2143289344 2139095040 == 0) = false)
    · exact and_exponent x hx
  have hs := and_sign x hx
  unfold flushV
  cases h : ((fv .f32 x).isSome && decide (x % 2147483648 < 8388608)) <;> rw [h] at hb
  · rw [if_neg (by decide)]
    clear hs h
    go_enter Try.func38, Try.ntmps38
    go_wp2_with (go_at_call 59; refine (c_l01Bits _ hx _).mono ?_; rintro e w' ⟨rfl, rfl⟩)
    go_ret
    exact ⟨x, ⟨rfl, hx⟩, rfl, 0, rfl⟩
  · rw [if_pos rfl]
    have hbits : bitsOf x = (x : Int) := by
      unfold bitsOf
      rw [if_pos (by simp at h; simpa using h.1)]
    rw [hbits] at hb
    have hlt : x / 2147483648 * 2147483648 < 4294967296 := by omega
    have hv : fv .f32 (x / 2147483648 * 2147483648) = some (x / 2147483648 * 2147483648) := by
      have : x / 2147483648 = 0 ∨ x / 2147483648 = 1 := by omega
      rcases this with h | h <;> rw [h] <;> rfl
    generalize hz : x / 2147483648 * 2147483648 = z at hs hlt hv ⊢
    clear hz h
    go_enter Try.func38, Try.ntmps38
    go_wp2_with (first | (go_at_call 59; refine (c_l01Bits _ hx _).mono ?_; rw [hbits]; rintro e w' ⟨rfl, rfl⟩) | (go_at_call 35; refine (c_l01From _ (by omega) (by omega) _).mono ?_; rintro e w' ⟨rfl, rfl⟩))
    go_ret
    exact ⟨z, ⟨hv, hlt⟩, rfl, 0, rfl⟩

theorem c_specFlush (x : Nat) (hx : x < 4294967296) (w : World) : Calls Try.prog 15 #[.float .f32 x] w (RF .f32 (flushV x) w) := by
  go_enter Try.func15, Try.ntmps15
  go_wp2_with (go_at_call 38; refine (c_l01Flush _ hx _).mono ?_; rintro e w' ⟨q, hq, rfl, n, rfl⟩)
  go_ret
  exact ⟨q, hq, rfl, _, rfl⟩

theorem c_copysign0 (r : Nat) (hr : r < 18446744073709551616) (w : World) : Calls Try.prog 40 #[.float .f64 0, .float .f64 r] w fun e w' => e = .returned (.float .f64 (r / 9223372036854775808 * 9223372036854775808)) ∧ w = w' := by
  have h1 := u64_sign r hr
  have h2 : bits .andNot .u64 0 9223372036854775808 = 0 := by decide
  have hlt : r / 9223372036854775808 * 9223372036854775808 < 18446744073709551616 := by omega
  generalize r / 9223372036854775808 * 9223372036854775808 = z at h1 hlt ⊢
  have h3 := u64_or0 z hlt
  go_enter Try.func40, Try.ntmps40
  go_wp2
  go_ret
  exact ⟨rfl, rfl⟩

/-- a zero of a float32's sign, as a float64 and back -/
theorem zero_back {x r : Nat} (hx : x < 4294967296) (hn : (FloatKind.f32.decode x).isNaN = false) (h : RV .f64 (cvf .f32 .f64 (fv .f32 x)) r) :
    FitsF .f64 .f32 (fv .f64 (r / 9223372036854775808 * 9223372036854775808)) ∧ cvf .f64 .f32 (fv .f64 (r / 9223372036854775808 * 9223372036854775808)) = some (x / 2147483648 * 2147483648) := by
  obtain ⟨r', a1, a2, _, _⟩ := widen_word hx hn
  have e1 : r = _ := (fv_some.1 (h.1.trans a2)).2
  have hw := word_sign (decide (2147483648 ≤ x)) a1
  rw [← e1] at hw
  have hr := rv64 h
  by_cases hs : 2147483648 ≤ x
  · have e2 : r / 9223372036854775808 = 1 := by
      have := hw.2 (decide_eq_true hs); omega
    have e3 : x / 2147483648 = 1 := by omega
    rw [e2, e3]
    exact ⟨by intro y hy; obtain ⟨_, rfl⟩ := fv_some.1 hy; rfl, rfl⟩
  · have e2 : r / 9223372036854775808 = 0 := by
      have : ¬ 9223372036854775808 ≤ r := by rw [hw]; simp [hs]
      omega
    have e3 : x / 2147483648 = 0 := by omega
    rw [e2, e3]
    exact ⟨by intro y hy; obtain ⟨_, rfl⟩ := fv_some.1 hy; rfl, rfl⟩

theorem c_implFlush (x : Nat) (hx : x < 4294967296) (w : World) : Calls Try.prog 16 #[.float .f32 x] w (RF .f32 (flushV x) w) := by
  cases hs : subV x
  · have hv : fv .f32 x = flushV x := by
      unfold flushV
      cases h : ((fv .f32 x).isSome && decide (x % 2147483648 < 8388608))
      · rw [if_neg (by decide)]
      · rw [if_pos rfl]
        simp only [Bool.and_eq_true, decide_eq_true_eq] at h
        have h0 : x % 2147483648 = 0 := by
          unfold subV at hs
          rw [h.1, decide_eq_true h.2] at hs
          simp at hs; omega
        have e : x / 2147483648 * 2147483648 = x := by omega
        rw [e]
        obtain ⟨y, hy⟩ := Option.isSome_iff_exists.1 h.1
        rw [hy, (fv_some.1 hy).2]
    go_enter Try.func16, Try.ntmps16
    go_wp2_with (go_at_call 39; refine (c_implIsSubnormal _ hx _).mono ?_; rw [hs]; rintro e w' ⟨rfl, n, rfl⟩)
    go_ret
    exact ⟨x, ⟨hv, hx⟩, rfl, _, rfl⟩
  · have hn : (FloatKind.f32.decode x).isNaN = false := by
      cases hn : (FloatKind.f32.decode x).isNaN with
      | false => rfl
      | true => unfold subV at hs; rw [fv_none.2 hn] at hs; cases hs
    have hv : flushV x = some (x / 2147483648 * 2147483648) := by
      unfold flushV subV at *
      rw [fv_some.2 ⟨hn, rfl⟩] at hs ⊢
      simp only [Option.isSome_some, Bool.true_and, Bool.and_eq_true, decide_eq_true_eq] at hs ⊢
      rw [if_pos hs.2]
    rw [hv]
    go_enter Try.func16, Try.ntmps16
    go_wp2_with (first | (go_at_call 39; refine (c_implIsSubnormal _ hx _).mono ?_; rw [hs]; rintro e w' ⟨rfl, n, rfl⟩) | ((with_reducible refine upon_widen Try.underlying22 Try.underlying26 hx ?_); intro r n hr) | (go_at_call 40; refine (c_copysign0 _ (rv64 hr) _).mono ?_; rintro e w' ⟨rfl, rfl⟩) | ((with_reducible refine upon_narrow Try.underlying26 Try.underlying22 (by have := rv64 hr; omega) (zero_back hx hn hr).1 ?_); intro q n hq))
    go_ret
    exact ⟨q, ⟨hq.1.trans (zero_back hx hn hr).2, hq.2⟩, rfl, _, rfl⟩

theorem walk_FnExactFlushNumber (x : Nat) (wx : (Lit.float .f32 x).wf = true) (w : World) : Calls Try.prog 4 #[.float .f32 x] w (Law w) := by
  have hx := wf32 wx
  clear wx
  go_enter Try.func4, Try.ntmps4
  go_wp2_with (first | (go_at_call 15; refine (c_specFlush _ hx _).mono ?_; rintro e w' ⟨q, hq, rfl, n, rfl⟩) | (go_at_call 16; refine (c_implFlush _ hx _).mono ?_; rintro e w' ⟨q', hq', rfl, n, rfl⟩) | ((with_reducible refine upon_widen Try.underlying22 Try.underlying26 (rv32 hq) ?_); intro r n hr) | ((with_reducible refine upon_widen Try.underlying22 Try.underlying26 (rv32 hq') ?_); intro r' n hr') | (go_at_call 14; refine (c_sameFloat _ _ (by rw [hr.1, hr'.1, hq.1, hq'.1]) _).mono ?_; rintro e w' ⟨rfl, n, rfl⟩))
  all_goals go_ret
  all_goals exact ⟨rfl, below_n (Below.refl _ _) _⟩

end Go.Proofs.Ytgkecanodapmgaa
