/-
Contracts and the walk of the law on PhasorOf.
-/
import Derived.Test.YtiabbafmjgiobaaWu
set_option linter.unusedVariables false
set_option linter.unusedSimpArgs false
namespace Go.Proofs.Ytiabbafmjgiobaa
open Fl Go.RowKit

theorem fin64 (x : Nat) : Fnt x ∨ opf .sub .f64 (fv .f64 x) (fv .f64 x) = none := by
  cases hd : Ieee.double.read x with
  | number s m e => exact .inl ⟨s, m, e, hd⟩
  | infinity s =>
    right
    have hn : (FloatKind.f64.decode x).isNaN = false := by
      show (Ieee.double.read x).isNaN = false
      rw [hd]; rfl
    rw [fv_some.2 ⟨hn, rfl⟩]
    show ((Ieee.double.read x).sum (Ieee.double.read x).opposite).map Ieee.double.write = none
    rw [hd]; cases s <;> rfl
  | nan s t =>
    right
    have hn : (FloatKind.f64.decode x).isNaN = true := by
      show (Ieee.double.read x).isNaN = true
      rw [hd]; rfl
    rw [fv_none.2 hn]; rfl

/-- a float in the other kind, where it fits: the model's function behind a conversion -/
theorem run_ffcv (P : Program) (w : World) {k d : FloatKind} {bx : Nat} (hw : bx < 2 ^ k.format.width) (hf : FitsF k d (fv k bx)) :
    ∃ r n, RV d (cvf k d (fv k bx)) r ∧ (Conv.floatToFloat k bx d).run P w = .ok (.float d r) (w.drewN n) := by
  by_cases he : k = d
  · subst he
    refine ⟨bx, 0, ⟨?_, hw⟩, run_floatToFloat w (by simp [floatToFloatBits])⟩
    unfold cvf fv
    split <;> simp [floatToFloatBits]
  · by_cases hn : (k.decode bx).isNaN = true
    · have e : fv k bx = none := fv_none.2 hn
      rw [e]
      refine ⟨(Question.nanConv d bx).cut (w.tape w.drawn (.nanConv d bx)), 1, rv_nanConv d bx _, ?_⟩
      cases hdd : k.decode bx <;> simp [hdd, Ieee.Datum.isNaN] at hn
      simp [Conv.floatToFloat, he, hdd, Question.forced]
      rfl
    · have e : fv k bx = some bx := by unfold fv; rw [if_neg hn]
      rw [e] at hf ⊢
      obtain ⟨r, hr⟩ := Option.isSome_iff_exists.1 (hf bx rfl)
      refine ⟨r, 0, ⟨?_, ?_⟩, run_floatToFloat w hr⟩
      · show fv d r = floatToFloatBits k bx d
        rw [hr]
        unfold floatToFloatBits at hr
        rw [if_neg he] at hr
        split at hr
        · cases hr
        · cases hr; exact write_fv d rfl
        · split at hr
          · cases hr
          · cases hr; exact write_fv d rfl
      · have hw' : (Lit.float k bx).wf = true := wf_of_lt k bx hw
        exact wf_lt (floatToFloatBits_wf hw' hr)

/-! the quarters -/
def cq : Nat → Nat
  | 0 => 0
  | 1 => 4598175219545276416
  | 2 => 4602678819172646912
  | 3 => 4604930618986332160
  | _ => 4607182418800017408
theorem cq_un (m : Nat) (h : m < 4) : un Ieee.double (cq m) + un Ieee.double 4598175219545276416 = un Ieee.double (cq (m + 1)) := by
  have : m = 0 ∨ m = 1 ∨ m = 2 ∨ m = 3 := by omega
  rcases this with rfl | rfl | rfl | rfl <;> exact of_decide_eq_true (by kernel_rfl)
theorem cq_le (m : Nat) : cq m ≤ one := by
  unfold cq one; split <;> omega

theorem sub_quarter {r c c' : Nat} (hc : c' < Ieee.double.infRung) (e : un Ieee.double c' + un Ieee.double 4598175219545276416 = un Ieee.double c) (h1 : 4598175219545276416 ≤ r) (h2 : r ≤ c) (hr : r < Ieee.double.infRung) :
    ∃ r', r' ≤ c' ∧ fsub (Ieee.double.word false r) 4598175219545276416 = Ieee.double.word false r' := by
  have h0 : Ieee.double.read 4598175219545276416 = .number false (sig Ieee.double 4598175219545276416) (Ieee.double.leastPlace + (exq Ieee.double 4598175219545276416 : Nat)) := read_word Ieee.double false 4598175219545276416 (by decide)
  have hs : ∃ p, (Ieee.double.read (Ieee.double.word false r)).sum (Ieee.double.read 4598175219545276416).opposite = some p ∧ ∃ r', r' ≤ c' ∧ Ieee.double.write p = Ieee.double.word false r' := by
    rw [read_word Ieee.double false r hr, h0]
    refine ⟨_, rfl, ?_⟩
    have hle := (un_le_iff Ieee.double _ _).2 h2
    have hge := (un_le_iff Ieee.double _ _).2 h1
    rw [← e] at hle
    clear e h0
    generalize 4598175219545276416 = Q at *
    generalize hb : min (exq Ieee.double r) (exq Ieee.double Q) = b
    have e1 : (Ieee.double.leastPlace + (exq Ieee.double r : Nat) - min (Ieee.double.leastPlace + (exq Ieee.double r : Nat)) (Ieee.double.leastPlace + (exq Ieee.double Q : Nat))).toNat = exq Ieee.double r - b := by omega
    have e2 : (Ieee.double.leastPlace + (exq Ieee.double Q : Nat) - min (Ieee.double.leastPlace + (exq Ieee.double r : Nat)) (Ieee.double.leastPlace + (exq Ieee.double Q : Nat))).toNat = exq Ieee.double Q - b := by omega
    have e3 : min (Ieee.double.leastPlace + ((exq Ieee.double r : Nat) : Int)) (Ieee.double.leastPlace + ((exq Ieee.double Q : Nat) : Int)) = Ieee.double.leastPlace + (b : Int) := by omega
    rw [e1, e2, e3]
    have u1 : un Ieee.double r = sig Ieee.double r * 2 ^ (exq Ieee.double r - b) * 2 ^ b := by unfold un; rw [Nat.mul_assoc, ← Nat.pow_add]; congr 2; omega
    have u2 : un Ieee.double Q = sig Ieee.double Q * 2 ^ (exq Ieee.double Q - b) * 2 ^ b := by unfold un; rw [Nat.mul_assoc, ← Nat.pow_add]; congr 2; omega
    rw [u1, u2] at hle
    rw [u1, u2] at hge
    have hge' := Nat.le_of_mul_le_mul_right hge (Nat.two_pow_pos b)
    have d1 : Ieee.signed false (sig Ieee.double r) (exq Ieee.double r - b) = ((sig Ieee.double r * 2 ^ (exq Ieee.double r - b) : Nat) : Int) := by unfold Ieee.signed; rw [Nat.shiftLeft_eq]; rfl
    have d2 : Ieee.signed (!false) (sig Ieee.double Q) (exq Ieee.double Q - b) = -((sig Ieee.double Q * 2 ^ (exq Ieee.double Q - b) : Nat) : Int) := by unfold Ieee.signed; rw [Nat.shiftLeft_eq]; rfl
    rw [d1, d2]
    generalize hX : sig Ieee.double r * 2 ^ (exq Ieee.double r - b) = X at *
    generalize hY : sig Ieee.double Q * 2 ^ (exq Ieee.double Q - b) = Y at *
    have e4 : (if (X : Int) + -(Y : Int) = 0 then false && !false else decide ((X : Int) + -(Y : Int) < 0)) = false := by
      split
      · rfl
      · rw [decide_eq_false_iff_not]; omega
    have e5 : ((X : Int) + -(Y : Int)).natAbs = X - Y := by omega
    rw [e4, e5]
    obtain ⟨r', h5, h6⟩ := nearest_mono_le Ieee.double false (X - Y) (Ieee.double.leastPlace + (b : Int)) c' hc (x := b) (y := 0) (by omega) (by
      rw [Nat.pow_zero, Nat.mul_one, Nat.sub_mul]
      omega)
    exact ⟨r', h5, h6⟩
  obtain ⟨p, hp, r', h2', h3⟩ := hs
  refine ⟨r', h2', ?_⟩
  show ((((Ieee.double.read (Ieee.double.word false r)).sum (Ieee.double.read 4598175219545276416).opposite).map Ieee.double.write).getD 0) = _
  rw [hp]; exact h3

def geQ (f : Nat) : Bool := (FloatKind.f64.format.order f 4598175219545276416 == some .gt) || (FloatKind.f64.format.order f 4598175219545276416 == some .eq)
def qs (f : Nat) : Nat → Nat
  | 0 => f
  | j + 1 => fsub (qs f j) 4598175219545276416
theorem qs_shift (f : Nat) : ∀ j, qs (fsub f 4598175219545276416) j = qs f (j + 1)
  | 0 => rfl
  | j + 1 => congrArg (fsub · 4598175219545276416) (qs_shift f j)

theorem geQ_word (s : Bool) {r : Nat} (hr : r < Ieee.double.infRung) : geQ (Ieee.double.word s r) = decide (s = false ∧ 4598175219545276416 ≤ r) := by
  have h := ge_word s (c := 4598175219545276416) hr (by decide)
  unfold geQ
  rw [h]
  congr 1
  exact propext (sun_ge (by decide))

def Quarters (f n : Nat) : Prop := n ≤ 4 ∧ (∀ j, j < n → geQ (qs f j) = true) ∧ geQ (qs f n) = false ∧ ∀ j, j ≤ n → Bd (qs f j) 0

theorem quarters_pos : ∀ m : Nat, m ≤ 4 → ∀ r, r ≤ cq m → ∃ n, n ≤ m ∧ Quarters (Ieee.double.word false r) n
  | 0, _, r, h => by
    have h0 : r = 0 := Nat.le_zero.1 h
    subst h0
    refine ⟨0, Nat.le_refl _, Nat.zero_le _, fun j hj => absurd hj (Nat.not_lt_zero _), ?_, ?_⟩
    · show geQ (Ieee.double.word false 0) = false
      rw [geQ_word false (by decide)]; decide
    · intro j hj
      obtain rfl := Nat.le_zero.1 hj
      exact bd_rung (Nat.zero_le _)
  | m + 1, hm, r, h => by
    have hone : r ≤ one := Nat.le_trans h (cq_le _)
    have hr : r < Ieee.double.infRung := Nat.lt_of_le_of_lt hone (by decide)
    cases hg : geQ (Ieee.double.word false r)
    · refine ⟨0, Nat.zero_le _, Nat.zero_le _, fun j hj => absurd hj (Nat.not_lt_zero _), hg, ?_⟩
      intro j hj
      obtain rfl := Nat.le_zero.1 hj
      exact bd_rung hone
    · have hq := hg
      rw [geQ_word false hr, decide_eq_true_eq] at hq
      obtain ⟨r', h1, h2⟩ := sub_quarter (Nat.lt_of_le_of_lt (cq_le m) (by decide)) (cq_un m (by omega)) hq.2 h hr
      obtain ⟨n, hn, h3, h4, h5, h6⟩ := quarters_pos m (by omega) r' h1
      rw [← h2] at h4 h5 h6
      refine ⟨n + 1, by omega, by omega, ?_, ?_, ?_⟩
      · intro j hj
        cases j with
        | zero => exact hg
        | succ j => rw [← qs_shift]; exact h4 j (by omega)
      · rw [← qs_shift]; exact h5
      · intro j hj
        cases j with
        | zero => exact bd_rung hone
        | succ j => rw [← qs_shift]; exact h6 j (by omega)

theorem quarters {f : Nat} (h : Bd f 0) : ∃ n, Quarters f n := by
  obtain ⟨s, r, hr, rfl⟩ := h.fin.word h.1
  have hone := rung_one hr h
  cases s
  · obtain ⟨n, _, hq⟩ := quarters_pos 4 (by omega) r hone
    exact ⟨n, hq⟩
  · refine ⟨0, Nat.zero_le _, fun j hj => absurd hj (Nat.not_lt_zero _), ?_, ?_⟩
    · show geQ (Ieee.double.word true r) = false
      rw [geQ_word true hr]; simp
    · intro j hj
      obtain rfl := Nat.le_zero.1 hj
      exact h

/-! the sine at small numbers -/
theorem not_big {x : Nat} {n : Int} (h : Bd x n) (h1 : -1074 ≤ n) (hn : n ≤ 51) : bigN x = false := by
  obtain ⟨s, r, hr, rfl⟩ := h.fin.word h.1
  have hu := un_bd hr h1 h
  unfold bigN
  rw [word_abs s (Nat.le_of_lt hr), decide_eq_false_iff_not]
  intro hle
  have hu2 := (un_le_iff Ieee.double _ _).2 hle
  have e1 : un Ieee.double r52 = 2 ^ 52 * 2 ^ 1074 := by
    have s1 : sig Ieee.double 4841369599423283200 = 2 ^ 52 := rfl
    have s2 : exq Ieee.double 4841369599423283200 = 1074 := rfl
    unfold r52 un; rw [s1, s2]
  rw [e1, pow_sum 52 1074 1126 rfl] at hu2
  have h3 := Nat.le_trans hu2 hu
  have h4 := (Nat.pow_le_pow_iff_right (by omega : 1 < 2)).1 h3
  omega

def tI (x : Nat) : Int := (floatToIntVal .f64 x .i64).getD 0
def sinW (x : Nat) : Nat := sineN (fracN x (tI x))
theorem sine_smallI {x : Nat} {n : Int} (h : Bd x n) (h1 : -1074 ≤ n) (hn : n ≤ 51) :
    (∀ w, Calls Try.prog 39 #[.float .f64 x] w fun e w' => e = .returned (.float .f64 (sinW x)) ∧ w = w') ∧ Bd (sinW x) 77 := by
  have hb := not_big h h1 hn
  obtain ⟨t, hcv, _, hft, hb0⟩ := frac_sub h.fin (h.mono (by omega))
  have et : tI x = t := by unfold tI; rw [hcv]; rfl
  have hbf := fracN_bd hb0
  unfold sinW
  rw [et]
  exact ⟨fun w => c_sine x _ (fun w => c_fraction x t h.fin hcv hft hb0 w) hbf w, sine_bd hbf⟩
/-- a double that fits a float32, as a float32: one value -/
theorem narrow_one {x : Nat} (h : Bd x 127) : ∃ q, RV .f32 (cvf .f64 .f32 (some x)) q ∧ ∀ w, (convert 39 34 (.float .f64 x)).run Try.prog w = .ok (.float .f32 q) w := by
  have hf := fits_bd h
  rw [h.fin.fv] at hf
  obtain ⟨q, hq⟩ := Option.isSome_iff_exists.1 (hf x rfl)
  have hw : (Lit.float .f64 x).wf = true := wf_of_lt .f64 x h.1
  refine ⟨q, ⟨?_, wf_lt (floatToFloatBits_wf hw hq)⟩, fun w => run_convert_float_float w _ _ _ _ x q (by rw [Try.underlying39]; rfl) Try.underlying34 hq⟩
  show fv .f32 q = floatToFloatBits .f64 x .f32
  rw [hq]
  unfold floatToFloatBits at hq
  rw [if_neg (by decide)] at hq
  split at hq
  · cases hq
  · cases hq; exact write_fv .f32 rfl
  · split at hq
    · cases hq
    · cases hq; exact write_fv .f32 rfl

/-- a complex number of values -/
def RC (v u : Option Nat) (w : World) (e : Ending) (w' : World) : Prop := ∃ a b, RV .f32 v a ∧ RV .f32 u b ∧ e = .returned (.complex .f32 a b) ∧ ∃ n, w' = w.drewN n
def selR (n c s c0 s0 : Nat) : Nat := match n with | 1 => s0 | 2 => c0 | 3 => s | _ => c
def selI (n c s c0 s0 : Nat) : Nat := match n with | 1 => c | 2 => s0 | 3 => c0 | _ => s
def phR (n c s : Nat) : Nat := selR n c s (fsub 0 c) (fsub 0 s)
def phI (n c s : Nat) : Nat := selI n c s (fsub 0 c) (fsub 0 s)
theorem bd_neg0 {x : Nat} (h : Bd x 77) : Bd (fsub 0 x) 78 := bd_sub (bd_zero.mono (by decide)) h

theorem c_l01From_nan (w : World) : Calls Try.prog 68 #[.int .i64 2143289344] w fun e w' => e = .returned (.float .f32 2143289344) ∧ w = w' := by
  go_enter Try.func68, Try.ntmps68
  go_wp2
  go_ret
  exact ⟨rfl, rfl⟩
theorem fv_nan32 : fv .f32 2143289344 = none := rfl

theorem c_isFinite64 (x : Nat) (hF : Fnt x) (w : World) : Calls Try.prog 35 #[.float .f64 x] w fun e w' => e = .returned (.bool true) ∧ w = w' := by
  have gs := sub_self hF
  have h00 : (FloatKind.f64.format.order 0 0 == some .eq) = true := by decide
  go_enter Try.func35, Try.ntmps35
  go_wp2_with fail
  go_ret
  exact ⟨rfl, rfl⟩
theorem c_isFinite64_nan (x : Nat) (h : opf .sub .f64 (fv .f64 x) (fv .f64 x) = none) (w : World) : Calls Try.prog 35 #[.float .f64 x] w (RB false w) := by
  have key : ∀ r, RV .f64 (opf .sub .f64 (fv .f64 x) (fv .f64 x)) r → (FloatKind.f64.format.order r 0 == some .eq) = false := by
    intro r hr
    rw [h] at hr
    rw [order_fv, hr.1]; rfl
  have KEY : Hid _ := key
  clear key
  go_enter Try.func35, Try.ntmps35
  go_wp2_with (first | ((with_reducible refine upon_fbin ?_ ?_); exact rfl; intro r n hr; have hk := KEY.out r hr))
  go_ret
  exact ⟨rfl, _, rfl⟩
theorem c_phasor_nan (x : Nat) (h : opf .sub .f64 (fv .f64 x) (fv .f64 x) = none) (w : World) : Calls Try.prog 16 #[.float .f64 x] w (RC none none w) := by
  have FI : Hid _ := c_isFinite64_nan x h
  clear h
  go_enter Try.func16, Try.ntmps16
  go_wp2_with (first | (go_at_call 35; refine (FI.out _).mono ?_; rintro e w' ⟨rfl, n, rfl⟩) | (go_at_call 36; refine (c_nan _).mono ?_; rintro e w' ⟨rfl, rfl⟩) | ((with_reducible refine upon_narrow Try.underlying39 Try.underlying34 (by decide) (by rw [fv_nan]; exact fits_none) ?_); intro q m hq))
  go_ret
  have hq' : RV .f32 none q := ⟨hq.1.trans (by rw [fv_nan]; rfl), hq.2⟩
  exact ⟨q, q, hq', hq', rfl, _, rfl⟩
theorem c_phasor_big (x : Nat) (hx : x < 18446744073709551616) (hF : Fnt x) (hb : bigN x = true) (w : World) : Calls Try.prog 16 #[.float .f64 x] w (RC (some 1065353216) (some 0) w) := by
  have ha := abs_r52 hx hF
  rw [hb] at ha
  have FI : Hid _ := c_isFinite64 x hF
  go_enter Try.func16, Try.ntmps16
  go_wp2_with (first | (go_at_call 35; refine (FI.out _).mono ?_; rintro e w' ⟨rfl, rfl⟩) | (go_at_call 37; refine (c_abs _ hx _).mono ?_; rintro e w' ⟨rfl, rfl⟩))
  go_ret
  exact ⟨_, _, ⟨rfl, by decide⟩, ⟨rfl, by decide⟩, rfl, 0, rfl⟩

theorem c_phasor_fin (x f : Nat) (n : Nat) (hx : x < 18446744073709551616) (hF : Fnt x) (hb : bigN x = false) (hfr : ∀ w, Calls Try.prog 38 #[.float .f64 x] w fun e w' => e = .returned (.float .f64 f) ∧ w = w') (hq : Quarters f n) (w : World) :
    Calls Try.prog 16 #[.float .f64 x] w (RC (cvf .f64 .f32 (some (phR n (sinW (fsub 4598175219545276416 (qs f n))) (sinW (qs f n))))) (cvf .f64 .f32 (some (phI n (sinW (fsub 4598175219545276416 (qs f n))) (sinW (qs f n))))) w) := by
  have ha := abs_r52 hx hF
  rw [hb] at ha
  have hfin := c_isFinite64 x hF
  have FR : Hid _ := hfr
  have FI : Hid _ := hfin
  clear hfr hfin
  obtain ⟨hn, hQ1, hQ2, hQ3⟩ := hq
  have H1 : Hid _ := hQ1
  have H2 : Hid _ := hQ2
  have H3 : Hid _ := hQ3
  have hqf : Fnt 4598175219545276416 := bd_quarter.fin
  clear hQ1 hQ2 hQ3 hb
  go_enter Try.func16, Try.ntmps16
  go_wp2_with (first | (go_at_call 35; refine (FI.out _).mono ?_; rintro e w' ⟨rfl, rfl⟩) | (go_at_call 37; refine (c_abs _ hx _).mono ?_; rintro e w' ⟨rfl, rfl⟩) | (go_at_call 38; refine (FR.out _).mono ?_; rintro e w' ⟨rfl, rfl⟩))
  clear ha hx FI FR hF
  go_loop [4, 5] (fun v i => ∃ j : Nat, j ≤ n ∧ v = .float .f64 (qs f j) ∧ i = .int .i64 j) (fun _ i => n - (intOf i).toNat)
  case atStart => exact ⟨0, Nat.zero_le _, rfl, rfl⟩
  case round =>
    obtain ⟨j, hj, rfl, rfl⟩ := hrel
    have hfj := (H3.out j hj).fin
    by_cases hlt : j < n
    · have hg : ((FloatKind.f64.format.order (qs f j) 4598175219545276416 == some .gt) || (FloatKind.f64.format.order (qs f j) 4598175219545276416 == some .eq)) = true := H1.out j hlt
      have HE : Hid (fsub (qs f j) 4598175219545276416 = qs f (j + 1)) := rfl
      generalize qs f j = g at *
      go_wp2_with fail
      go_round
      case rel => exact ⟨j + 1, by omega, by rw [HE.out], by go_num⟩
      case measure => simp [intOf]; omega
    · have hjn : j = n := by omega
      subst hjn
      have hg : ((FloatKind.f64.format.order (qs f j) 4598175219545276416 == some .gt) || (FloatKind.f64.format.order (qs f j) 4598175219545276416 == some .eq)) = false := H2.out
      have hB := H3.out j (Nat.le_refl _)
      have hB2 : Bd (fsub 4598175219545276416 (qs f j)) 1 := bd_sub bd_quarter hB
      obtain ⟨c1, bs⟩ := sine_smallI hB (by omega) (by omega)
      obtain ⟨c2, bc⟩ := sine_smallI hB2 (by omega) (by omega)
      have C1 : Hid _ := c1
      have C2 : Hid _ := c2
      clear c1 c2 H1 H2 H3 hB hB2
      generalize qs f j = g at *
      obtain ⟨g2, eg⟩ : ∃ g2, fsub 4598175219545276416 g = g2 := ⟨_, rfl⟩
      rw [eg] at C2 bc
      generalize sinW g = s at *
      obtain ⟨c, hc⟩ : ∃ c, sinW g2 = c := ⟨_, rfl⟩
      rw [hc] at C2 bc
      have HC : Hid (sinW (fsub 4598175219545276416 g) = c) := by
        show sinW _ = c
        rw [eg]; exact hc
      clear hc
      have bs1 := (bs.mono (by omega) : Bd s 127)
      have bc1 := (bc.mono (by omega) : Bd c 127)
      have bs0 := ((bd_neg0 bs).mono (by omega) : Bd (fsub 0 s) 127)
      have bc0 := ((bd_neg0 bc).mono (by omega) : Bd (fsub 0 c) 127)
      obtain ⟨s0, es⟩ : ∃ s0, fsub 0 s = s0 := ⟨_, rfl⟩
      obtain ⟨c0, ec⟩ : ∃ c0, fsub 0 c = c0 := ⟨_, rfl⟩
      rw [es] at bs0
      rw [ec] at bc0
      have HR : Hid (phR j c s = selR j c s c0 s0) := by
        show phR j c s = _
        unfold phR; rw [es, ec]
      have HI : Hid (phI j c s = selI j c s c0 s0) := by
        show phI j c s = _
        unfold phI; rw [es, ec]
      have s1 := bs.fin
      have s2 := bc.fin
      have s3 := bs0.fin
      have s4 := bc0.fin
      have hz : Fnt 0 := fin_zero
      obtain ⟨n1, r1, v1⟩ := narrow_one bs1
      obtain ⟨n2, r2, v2⟩ := narrow_one bc1
      obtain ⟨n3, r3, v3⟩ := narrow_one bs0
      obtain ⟨n4, r4, v4⟩ := narrow_one bc0
      have R1 : Hid _ := r1
      have R2 : Hid _ := r2
      have R3 : Hid _ := r3
      have R4 : Hid _ := r4
      clear bs bc bs1 bc1 bs0 bc0 r1 r2 r3 r4
      have h5 : j = 0 ∨ j = 1 ∨ j = 2 ∨ j = 3 ∨ j = 4 := by omega
      clear hlt hj hn
      rcases h5 with rfl | rfl | rfl | rfl | rfl
      · go_wp2_with (go_at_call 39; first | ((with_reducible refine (C2.out _).mono ?_); rintro e w' ⟨rfl, rfl⟩) | ((with_reducible refine (C1.out _).mono ?_); rintro e w' ⟨rfl, rfl⟩))
        go_ret
        rw [HC.out, HR.out, HI.out]
        exact ⟨_, _, R2.out, R1.out, rfl, 0, rfl⟩
      · go_wp2_with (go_at_call 39; first | ((with_reducible refine (C2.out _).mono ?_); rintro e w' ⟨rfl, rfl⟩) | ((with_reducible refine (C1.out _).mono ?_); rintro e w' ⟨rfl, rfl⟩))
        go_ret
        rw [HC.out, HR.out, HI.out]
        exact ⟨_, _, R3.out, R2.out, rfl, 0, rfl⟩
      · go_wp2_with (go_at_call 39; first | ((with_reducible refine (C2.out _).mono ?_); rintro e w' ⟨rfl, rfl⟩) | ((with_reducible refine (C1.out _).mono ?_); rintro e w' ⟨rfl, rfl⟩))
        go_ret
        rw [HC.out, HR.out, HI.out]
        exact ⟨_, _, R4.out, R3.out, rfl, 0, rfl⟩
      · go_wp2_with (go_at_call 39; first | ((with_reducible refine (C2.out _).mono ?_); rintro e w' ⟨rfl, rfl⟩) | ((with_reducible refine (C1.out _).mono ?_); rintro e w' ⟨rfl, rfl⟩))
        go_ret
        rw [HC.out, HR.out, HI.out]
        exact ⟨_, _, R1.out, R4.out, rfl, 0, rfl⟩
      · go_wp2_with (go_at_call 39; first | ((with_reducible refine (C2.out _).mono ?_); rintro e w' ⟨rfl, rfl⟩) | ((with_reducible refine (C1.out _).mono ?_); rintro e w' ⟨rfl, rfl⟩))
        go_ret
        rw [HC.out, HR.out, HI.out]
        exact ⟨_, _, R2.out, R1.out, rfl, 0, rfl⟩

end Go.Proofs.Ytiabbafmjgiobaa

