/-
The phasors that the law makes, and all that it asks of them.
-/
import Derived.Test.YtiabbafmjgiobaaCi
import Derived.Test.YtiabbafmjgiobaaCj
import Derived.Test.YtiabbafmjgiobaaM0
import Derived.Test.YtiabbafmjgiobaaM1
import Derived.Test.YtiabbafmjgiobaaM2
import Derived.Test.YtiabbafmjgiobaaM3
import Derived.Test.YtiabbafmjgiobaaM4
import Derived.Test.YtiabbafmjgiobaaM5
import Derived.Test.YtiabbafmjgiobaaM6
import Derived.Test.YtiabbafmjgiobaaM7
set_option linter.unusedVariables false
set_option linter.unusedSimpArgs false
namespace Go.Proofs.Ytiabbafmjgiobaa
open Fl Go Go.RowKit

theorem mN_lt (n : Int) : mN n < 64 := by unfold mN; omega
theorem ph_ok {m : Nat} (h : m < 64) : chkPh m = true := List.all_eq_true.1 tab_ph m (List.mem_range.2 h)
theorem ang_chk {m : Nat} (h : m < 64) : chkAng m = true := List.all_eq_true.1 tab_ang m (List.mem_range.2 h)
theorem wid_chk {m : Nat} (h : m < 64) : chkWid m = true := List.all_eq_true.1 tab_wid m (List.mem_range.2 h)
theorem pow_chk {m : Nat} (h : m < 64) : chkPow m = true := List.all_eq_true.1 tab_pow m (List.mem_range.2 h)
theorem x_chk {n : Int} (h1 : -256 ≤ n) (h2 : n < 256) : chkX n = true := by
  have := List.all_eq_true.1 tab_x (n + 256).toNat (List.mem_range.2 (by omega))
  rw [show (((n + 256).toNat : Nat) : Int) - 256 = n by omega] at this
  exact this
theorem turn_chk {n : Int} (h1 : -128 ≤ n) (h2 : n < 128) : chkTurn n = true := by
  have := List.all_eq_true.1 tab_turn (n + 128).toNat (List.mem_range.2 (by omega))
  rw [show (((n + 128).toNat : Nat) : Int) - 128 = n by omega] at this
  exact this
theorem sixteen {n : Int} (h : n.tmod 16 = 0) : chk16 (mN n) = true := by
  have h1 : n % 16 = 0 := by
    have := Int.mul_tdiv_add_tmod n 16
    omega
  have hm := mN_lt n
  have := List.all_eq_true.1 tab_16 (mN n / 16) (List.mem_range.2 (by omega))
  have e : 16 * (mN n / 16) = mN n := by unfold mN at *; omega
  rw [e] at this
  exact this
theorem row_of {i : Nat} (h : i < 64) : mulRow i = true := by
  have g : ∀ {p : Nat → Bool} {j : Nat}, (List.range 8).all p = true → j < 8 → p j = true := fun h hj => List.all_eq_true.1 h _ (List.mem_range.2 hj)
  have c : i < 8 ∨ (8 ≤ i ∧ i < 16) ∨ (16 ≤ i ∧ i < 24) ∨ (24 ≤ i ∧ i < 32) ∨ (32 ≤ i ∧ i < 40) ∨ (40 ≤ i ∧ i < 48) ∨ (48 ≤ i ∧ i < 56) ∨ (56 ≤ i ∧ i < 64) := by omega
  rcases c with c | ⟨c, d⟩ | ⟨c, d⟩ | ⟨c, d⟩ | ⟨c, d⟩ | ⟨c, d⟩ | ⟨c, d⟩ | ⟨c, d⟩
  · have := g rowsM0 (j := i) c
    rw [Nat.zero_add] at this; exact this
  · have := g rowsM1 (j := i - 8) (by omega)
    rw [show 8 + (i - 8) = i by omega] at this; exact this
  · have := g rowsM2 (j := i - 16) (by omega)
    rw [show 16 + (i - 16) = i by omega] at this; exact this
  · have := g rowsM3 (j := i - 24) (by omega)
    rw [show 24 + (i - 24) = i by omega] at this; exact this
  · have := g rowsM4 (j := i - 32) (by omega)
    rw [show 32 + (i - 32) = i by omega] at this; exact this
  · have := g rowsM5 (j := i - 40) (by omega)
    rw [show 40 + (i - 40) = i by omega] at this; exact this
  · have := g rowsM6 (j := i - 48) (by omega)
    rw [show 48 + (i - 48) = i by omega] at this; exact this
  · have := g rowsM7 (j := i - 56) (by omega)
    rw [show 56 + (i - 56) = i by omega] at this; exact this
theorem mul_chk {i j : Nat} (hi : i < 64) (hj : j < 64) : chkMul i j = true := List.all_eq_true.1 (row_of hi) j (List.mem_range.2 hj)

theorem quarters_uniq {f n k : Nat} (h : Quarters f n) (h1 : (List.range k).all (fun j => geQ (qs f j)) = true) (h2 : geQ (qs f k) = false) : n = k := by
  obtain ⟨_, g1, g2, _⟩ := h
  rcases Nat.lt_trichotomy n k with h | h | h
  · have := List.all_eq_true.1 h1 n (List.mem_range.2 h)
    rw [g2] at this; cases this
  · exact h
  · have := g1 k h
    rw [h2] at this; cases this
theorem rv_eq {a b : Nat} (h : RV .f32 (some b) a) : a = b := (fv_some.1 h.1).2
/-- the phasor of n / 64 -/
theorem c_ph {n : Int} (h1 : -256 ≤ n) (h2 : n < 256) (w : World) : Calls Try.prog 16 #[.float .f64 (xN n)] w fun e w' => e = .returned (.complex .f32 (TRv (mN n)) (TIv (mN n))) ∧ ∃ k, w' = w.drewN k := by
  have hx := x_chk h1 h2
  unfold chkX at hx
  simp only [Bool.and_eq_true, Bool.not_eq_true', beq_iff_eq] at hx
  obtain ⟨⟨⟨k1, k2⟩, k3⟩, _⟩ := hx
  have hin := in_bits k1
  have hlt := hin.1
  have hF := hin.fnt
  have hp := ph_ok (mN_lt n)
  unfold chkPh at hp
  simp only [Bool.and_eq_true, Bool.not_eq_true', beq_iff_eq] at hp
  obtain ⟨⟨p1, p2⟩, p3⟩ := hp
  generalize xN n = x at *
  generalize mN n = m at *
  obtain ⟨t, hcv, _, hft, hb0⟩ := frac_sub hF (small_bd hlt hF k2)
  have et : tI x = t := by unfold tI; rw [hcv]; rfl
  obtain ⟨q, hq⟩ := quarters (fracN_bd hb0)
  have hfr : ∀ w, Calls Try.prog 38 #[.float .f64 x] w fun e w' => e = .returned (.float .f64 (fracN x t)) ∧ w = w' := fun w => c_fraction x t hF hcv hft hb0 w
  rw [et] at k3
  rw [k3] at hq hfr
  have eq := quarters_uniq hq p2 p3
  subst eq
  refine (c_phasor_fin x _ _ hlt hF k2 hfr hq w).mono ?_
  have q1 : (ph64 m).1 = some (TRv m) := by rw [p1]
  have q2 : (ph64 m).2 = some (TIv m) := by rw [p1]
  rintro e w' ⟨a, b, ha, hb, rfl, k, rfl⟩
  change RV .f32 (ph64 m).1 a at ha
  change RV .f32 (ph64 m).2 b at hb
  rw [q1] at ha
  rw [q2] at hb
  rw [rv_eq ha, rv_eq hb]
  exact ⟨rfl, k, rfl⟩
/-- the angle of the phasor -/
theorem c_phAngle {m : Nat} (h : m < 64) (w : World) : Calls Try.prog 17 #[.complex .f32 (TRv m) (TIv m)] w fun e w' => e = .returned (.float .f32 (TAv m)) ∧ ∃ k, w' = w.drewN k := by
  have ha := ang_chk h
  unfold chkAng isF32 at ha
  simp only [Bool.and_eq_true, Bool.or_eq_true, Bool.not_eq_true', beq_iff_eq, decide_eq_true_eq] at ha
  obtain ⟨⟨⟨⟨a1, a2⟩, ⟨a3, a4⟩⟩, a5⟩, a6⟩ := ha
  refine c_angleOfV _ _ _ (c_angV _ _ _ a3 a1 a4 a2 ?_ a6) w
  cases hz : (FloatKind.f32.format.order (TRv m) 0 == some .eq)
  · exact .inl rfl
  · rw [hz] at a5
    exact .inr ⟨rfl, a5.resolve_left (by decide)⟩

/-- the table's wide parts -/
structure Wide (m : Nat) : Prop where
  r : UpTo (TRv m) (WRv m)
  i : UpTo (TIv m) (WIv m)
  a : UpTo (TAv m) (WAv m)
  fr : Fnt (WRv m)
  fi : Fnt (WIv m)
  fa : Fnt (WAv m)
theorem wide_of {m : Nat} (h : m < 64) : Wide m := by
  have hw := wid_chk h
  unfold chkWid at hw
  simp only [Bool.and_eq_true, beq_iff_eq] at hw
  obtain ⟨⟨⟨⟨⟨w1, w2⟩, w3⟩, w4⟩, w5⟩, w6⟩ := hw
  exact ⟨upto_of w1, upto_of w2, upto_of w3, fnt_of w4, fnt_of w5, fnt_of w6⟩
structure Narr (U t most : Nat) : Prop where
  f : Fnt U
  d : DownTo U (nar U)
  u : UpTo (nar U) (wid (nar U))
  g : Fnt (wid (nar U))
  le : ((FloatKind.f64.format.order (gapN (wid (nar U)) t) most == some .lt) || (FloatKind.f64.format.order (gapN (wid (nar U)) t) most == some .eq)) = true
  gt : (FloatKind.f64.format.order (gapN (wid (nar U)) t) most == some .gt) = false
theorem narr_of {U t most : Nat} (h : chkNarrow U t most = true) : Narr U t most := by
  unfold chkNarrow at h
  simp only [Bool.and_eq_true, Bool.not_eq_true', beq_iff_eq] at h
  obtain ⟨⟨⟨⟨⟨n1, n2⟩, n3⟩, n4⟩, n5⟩, n6⟩ := h
  exact ⟨fnt_of n1, downto_of n2, upto_of n3, fnt_of n4, n5, n6⟩
def powU (m : Nat) : Nat := fadd (fmul (WRv m) (WRv m)) (fmul (WIv m) (WIv m))
theorem c_phPow {m : Nat} (h : m < 64) : (∀ w, Calls Try.prog 19 #[.complex .f32 (TRv m) (TIv m)] w fun e w' => e = .returned (.float .f32 (nar (powU m))) ∧ w = w') ∧ Narr (powU m) 4607182418800017408 4547007122018943789 := by
  have hp := pow_chk h
  have W := wide_of h
  unfold chkPow at hp
  simp only [Bool.and_eq_true] at hp
  obtain ⟨⟨p1, p2⟩, p3⟩ := hp
  have N := narr_of p3
  exact ⟨fun w => c_powG _ _ _ _ _ W.r W.i W.fr W.fi (fnt_of p1) (fnt_of p2) N.d w, N⟩
def mulU (i j : Nat) : Nat := fsub (fmul (WRv i) (WRv j)) (fmul (WIv i) (WIv j))
def mulV (i j : Nat) : Nat := fadd (fmul (WRv i) (WIv j)) (fmul (WIv i) (WRv j))
theorem c_phMul {i j k : Nat} (hi : i < 64) (hj : j < 64) (hk : k = (i + j) % 64) : (∀ w, Calls Try.prog 21 #[.complex .f32 (TRv i) (TIv i), .complex .f32 (TRv j) (TIv j)] w fun e w' => e = .returned (.complex .f32 (nar (mulU i j)) (nar (mulV i j))) ∧ w = w') ∧
    (∀ w, Calls Try.prog 20 #[.complex .f32 (nar (mulU i j)) (nar (mulV i j)), .complex .f32 (TRv k) (TIv k), .float .f64 4547007122018943789] w fun e w' => e = .returned (.bool true) ∧ w = w') := by
  have hp := mul_chk hi hj
  have Wi := wide_of hi
  have Wj := wide_of hj
  have Wk := wide_of (m := k) (by omega)
  unfold chkMul at hp
  simp only [Bool.and_eq_true] at hp
  obtain ⟨⟨⟨⟨⟨p1, p2⟩, p3⟩, p4⟩, p5⟩, p6⟩ := hp
  rw [← hk] at p5 p6
  have N := narr_of p5
  have M := narr_of p6
  exact ⟨fun w => c_mulG _ _ _ _ _ _ _ _ _ _ Wi.r Wi.i Wj.r Wj.i Wi.fr Wi.fi Wj.fr Wj.fi (fnt_of p1) (fnt_of p2) (fnt_of p3) (fnt_of p4) N.d M.d w,
    fun w => c_near _ _ _ _ _ _ _ _ _ N.u M.u Wk.r Wk.i N.g M.g Wk.fr Wk.fi N.le M.le w⟩
/-- how the angle tells the turn -/
structure Turn (n : Int) : Prop where
  g : Fnt (angG n)
  t : Fnt (turnN n)
  s : Fnt (fadd (turnN n) 4666723447345250304)
  cv : ∀ w, (convert 39 2 (.float .f64 (fadd (turnN n) 4666723447345250304))).run Try.prog w = .ok (.int .i64 (wholeN n)) w
  lo : 9000 ≤ wholeN n
  hi : wholeN n ≤ 11000
  md : (wholeN n - 10000).tmod 64 = 0
  fw : Fnt (floatOfInt .f64 (wholeN n - 10000))
  gt : (FloatKind.f64.format.order (gapT n) 4562254508917369340 == some .gt) = false
theorem turn_of {n : Int} (h1 : -128 ≤ n) (h2 : n < 128) : Turn n := by
  have h := turn_chk h1 h2
  unfold chkTurn at h
  simp only [Bool.and_eq_true, Bool.not_eq_true', beq_iff_eq, decide_eq_true_eq] at h
  obtain ⟨⟨⟨⟨⟨⟨⟨⟨⟨t1, t2⟩, t3⟩, t4⟩, t5⟩, t6⟩, t7⟩, t8⟩, t9⟩, t10⟩ := h
  exact ⟨fnt_of t1, fnt_of t2, fnt_of t3, fun w => run_convert_float_int w _ _ _ _ _ _ (by rw [Try.underlying39]; rfl) Try.underlying2 t4, t5, t6, t7, fnt_of t8, t10⟩
theorem int_fnt {n : Int} (h1 : -256 ≤ n) (h2 : n < 256) : Fnt (floatOfInt .f64 n) := by
  have hx := x_chk h1 h2
  unfold chkX at hx
  simp only [Bool.and_eq_true, Bool.not_eq_true', beq_iff_eq] at hx
  exact fnt_of hx.2

end Go.Proofs.Ytiabbafmjgiobaa
