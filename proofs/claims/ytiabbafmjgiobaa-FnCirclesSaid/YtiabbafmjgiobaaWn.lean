/-
Contracts and walk of the law on AngleTurns.
-/
import Derived.Test.YtiabbafmjgiobaaWp
import Derived.Test.YtiabbafmjgiobaaWl
import Derived.Test.YtiabbafmjgiobaaAt
set_option linter.unusedVariables false
set_option linter.unusedSimpArgs false
namespace Go.Proofs.Ytiabbafmjgiobaa
open Fl Go.RowKit

@[go_sem] theorem x_sqrt_ok {x r : Nat} (h : FloatKind.f64.format.sqrt x = some r) (w : World) : (callFunc 62 #[.float .f64 x]).run Try.prog w = .ok (.value (.float .f64 r)) w := by
  rw [x_sqrt]
  have e : Extern.MathSqrt.sqrt #[.float .f64 x] = (match FloatKind.f64.format.sqrt x with | some r => pure (.float .f64 r) | none => do pure (.float .f64 (← choose (.nanBits .f64 x x)))) := rfl
  rw [e, h]; rfl
theorem c_sqrt_ok (x r : Nat) (h : FloatKind.f64.format.sqrt x = some r) (w : World) : Calls Try.prog 56 #[.float .f64 x] w fun e w' => e = .returned (.float .f64 r) ∧ w = w' := by
  go_enter Try.func56, Try.ntmps56
  go_wp2_with fail
  go_ret
  exact ⟨rfl, rfl⟩

/-- the series' counter -/
theorem kA_round (j : Nat) (h : j < 8) : fsub (floatOfInt .f64 (kA j)) 4611686018427387904 = floatOfInt .f64 (kA (j + 1)) ∧
    ((FloatKind.f64.format.order (floatOfInt .f64 (kA j)) 4607182418800017408 == some .gt) || (FloatKind.f64.format.order (floatOfInt .f64 (kA j)) 4607182418800017408 == some .eq)) = true ∧
    mk (floatOfInt .f64 (kA (j + 1))) < mk (floatOfInt .f64 (kA j)) ∧ Fnt (floatOfInt .f64 (kA j)) := by
  have : j = 0 ∨ j = 1 ∨ j = 2 ∨ j = 3 ∨ j = 4 ∨ j = 5 ∨ j = 6 ∨ j = 7 := by omega
  rcases this with rfl | rfl | rfl | rfl | rfl | rfl | rfl | rfl <;> exact ⟨rfl, by decide, by decide, fin_lit _ (by decide)⟩
theorem kA_end : ((FloatKind.f64.format.order (floatOfInt .f64 (kA 8)) 4607182418800017408 == some .gt) || (FloatKind.f64.format.order (floatOfInt .f64 (kA 8)) 4607182418800017408 == some .eq)) = false := by decide

/-- what a walk asks of the halvings -/
def Halves (T : Nat → Nat) : Prop := ∀ j, j < 3 → Fnt (T j) ∧ Fnt (fmul (T j) (T j)) ∧ Fnt (fadd 4607182418800017408 (fmul (T j) (T j))) ∧ ∃ s, FloatKind.f64.format.sqrt (fadd 4607182418800017408 (fmul (T j) (T j))) = some s ∧ Fnt s ∧ NZ (fadd 4607182418800017408 s) ∧ fdiv (T j) (fadd 4607182418800017408 s) = T (j + 1)
theorem halves {t : Nat} (h : Bd t 0) : Halves (halfT t) := by
  intro j _
  have H := half_ok (half_bd h j)
  exact ⟨H.tf.fin, H.tt, H.x, _, H.s, H.fs, H.nz, rfl⟩
theorem fin_eight : Fnt 4620693217682128896 := bd_eight.fin
theorem nz_turn : NZ 4618760256179416344 := ge2_nz ge_turn

theorem c_angle00 (y x y' x' : Nat) (T : Nat → Nat) (xn yn : Bool) (v : Nat) (hfy : isFin (fv .f32 y) = true) (hfx : isFin (fv .f32 x) = true) (hcy : ∀ w, (convert 34 39 (.float .f32 y)).run Try.prog w = .ok (.float .f64 y') w) (hcx : ∀ w, (convert 34 39 (.float .f32 x)).run Try.prog w = .ok (.float .f64 x') w)
    (hy : y' < 18446744073709551616) (hx : x' < 18446744073709551616) (hz : (FloatKind.f32.format.order x 0 == some .eq) = false)
    (ho : (FloatKind.f64.format.order (y' % 9223372036854775808) (x' % 9223372036854775808) == some .gt) = false) (Fa : Fnt (y' % 9223372036854775808)) (Fb : Fnt (x' % 9223372036854775808)) (nz : NZ (x' % 9223372036854775808))
    (q : Nat) (hq : ∀ w, (binOp .quo 39 (.float .f64 (y' % 9223372036854775808)) (.float .f64 (x' % 9223372036854775808))).run Try.prog w = .ok (.float .f64 q) w)
    (hT0 : q = T 0) (hT : Halves T) (hL : AngOK (T 3) false xn yn) (hxn : (FloatKind.f32.format.order x 0 == some .lt) = xn) (hyn : (FloatKind.f32.format.order y 0 == some .lt) = yn)
    (hN : ∀ w, (convert 39 34 (.float .f64 (ang3 yn (ang2 xn (ang1 false (ang0 (T 3))))))).run Try.prog w = .ok (.float .f32 v) w) (w : World) :
    Calls Try.prog 40 #[.float .f32 y, .float .f32 x] w fun e w' => e = .returned (.float .f32 v) ∧ ∃ n, w' = w.drewN n := by
  have HT : Hid _ := hT
  have HL : Hid _ := hL
  have HN : Hid _ := hN
  have IY : Hid _ := c_implIsFinite y
  have IX : Hid _ := c_implIsFinite x
  have AY : Hid _ := c_abs y' hy
  have AX : Hid _ := c_abs x' hx
  have IYf : Hid _ := hfy
  have IXf : Hid _ := hfx
  clear hT hL hy hx hN hfy hfx
  have h1 := fin_one
  have h8 := fin_eight
  have h2 := fin_two
  have ht := nz_turn
  have hqf : Fnt 4598175219545276416 := bd_quarter.fin
  have hhf := fin_half
  generalize y' % 9223372036854775808 = a at *
  generalize x' % 9223372036854775808 = b at *
  clear nz
  go_enter Try.func40, Try.ntmps40
  go_wp2_with (first | (go_at_call 43; first | ((with_reducible refine (IY.out _).mono ?_); rw [IYf.out]; rintro e w' ⟨rfl, n, rfl⟩) | ((with_reducible refine (IX.out _).mono ?_); rw [IXf.out]; rintro e w' ⟨rfl, n', rfl⟩)) | (go_at_call 37; first | ((with_reducible refine (AY.out _).mono ?_); rintro e w' ⟨rfl, rfl⟩) | ((with_reducible refine (AX.out _).mono ?_); rintro e w' ⟨rfl, rfl⟩)))
  clear hz hcy hcx hq hT0 IY IX AY AX IYf IXf
  go_loop [7, 43] (fun v i => ∃ j : Nat, j ≤ 3 ∧ v = .float .f64 (T j) ∧ i = .int .i64 j) (fun _ i => 3 - (intOf i).toNat)
  case atStart => exact ⟨0, Nat.zero_le _, rfl, rfl⟩
  case round =>
    obtain ⟨j, hj, rfl, rfl⟩ := hrel
    by_cases hlt : j < 3
    · obtain ⟨a1, a2, a3, s, a4, a5, a6, a7⟩ := HT.out j hlt
      have CS : Hid _ := c_sqrt_ok _ _ a4
      obtain ⟨g', eg⟩ : ∃ g', T (j + 1) = g' := ⟨_, rfl⟩
      rw [eg] at a7
      have HG : Hid _ := eg
      clear eg a4
      generalize T j = g at *
      have hj3 : (j : Int) < 3 := by omega
      go_wp2_with (go_at_call 56; refine (CS.out _).mono ?_; rintro e w' ⟨rfl, rfl⟩)
      go_round
      case rel => exact ⟨j + 1, by omega, by rw [HG.out], by go_num⟩
      case measure => simp [intOf]; omega
    · have h3 : j = 3 := by omega
      subst h3
      have L := HL.out
      obtain ⟨t, et⟩ : ∃ t, T 3 = t := ⟨_, rfl⟩
      rw [et] at L
      rw [et]
      have Lt := L.tf
      have Lu := L.u
      have Lp := L.p
      have Ltp := L.tp
      have Le := L.e
      have L0 := L.a0
      have L1 := L.a1
      obtain ⟨u, eu⟩ : ∃ u, fmul t t = u := ⟨_, rfl⟩
      rw [eu] at Lu Lp Ltp Le
      obtain ⟨A0, e0⟩ : ∃ A0, ang0 t = A0 := ⟨_, rfl⟩
      rw [e0] at L0 L1
      have e0' : fdiv (fmul 4620693217682128896 (fmul t (angS u 8))) 4618760256179416344 = A0 := by rw [← e0, ← eu]; rfl
      have L1' : Fnt (A0) := L1
      have HA : Hid (ang0 (T 3) = A0) := by
        show ang0 (T 3) = A0
        rw [et]; exact e0
      clear et e0 L1 L
      have LU : Hid _ := Lu
      have Lf := Lu.fin
      clear Lu
      go_wp2_with fail
      clear eu
      go_loop [9, 10] (fun v i => ∃ i' : Nat, i' ≤ 8 ∧ v = .float .f64 (angS u i') ∧ i = .float .f64 (floatOfInt .f64 (kA i'))) (fun _ k => mk (bitsF k))
      case atStart => exact ⟨0, Nat.zero_le _, rfl, rfl⟩
      case round =>
        obtain ⟨i, hi, rfl, rfl⟩ := hrel
        by_cases hlt : i < 8
        · obtain ⟨b1, b2, b3, b4⟩ := angS_facts LU.out i hlt
          obtain ⟨c1, c2, c3, c4⟩ := kA_round i hlt
          have C3 : Hid _ := c3
          have HL0 : Hid _ := L0
          have HLp : Hid _ := Lp
          clear c3 Ltp Le e0' L1' L0 Lp
          have b5 : fsub (fdiv 4607182418800017408 (floatOfInt .f64 (kA i))) (fmul u (angS u i)) = angS u (i + 1) := rfl
          go_wp2_with fail
          go_round
          case rel => exact ⟨i + 1, by omega, rfl, rfl⟩
          case measure => exact C3.out
        · have h8 : i = 8 := by omega
          subst h8
          have hk := kA_end
          have hn := HN.out
          rw [HA.out] at hn
          clear hlt hi
          cases xn <;> cases yn
          all_goals simp only [ang1, ang2, ang3, if_true, if_false, Bool.false_eq_true] at hn
          all_goals go_wp2_with fail
          all_goals go_ret
          all_goals exact ⟨rfl, _, rfl⟩
theorem c_angle01 (y x y' x' : Nat) (T : Nat → Nat) (xn yn : Bool) (v : Nat) (hfy : isFin (fv .f32 y) = true) (hfx : isFin (fv .f32 x) = true) (hcy : ∀ w, (convert 34 39 (.float .f32 y)).run Try.prog w = .ok (.float .f64 y') w) (hcx : ∀ w, (convert 34 39 (.float .f32 x)).run Try.prog w = .ok (.float .f64 x') w)
    (hy : y' < 18446744073709551616) (hx : x' < 18446744073709551616) (hz : (FloatKind.f32.format.order x 0 == some .eq) = true) (hz' : (FloatKind.f32.format.order y 0 == some .eq) = false)
    (ho : (FloatKind.f64.format.order (y' % 9223372036854775808) (x' % 9223372036854775808) == some .gt) = false) (Fa : Fnt (y' % 9223372036854775808)) (Fb : Fnt (x' % 9223372036854775808)) (nz : NZ (x' % 9223372036854775808))
    (q : Nat) (hq : ∀ w, (binOp .quo 39 (.float .f64 (y' % 9223372036854775808)) (.float .f64 (x' % 9223372036854775808))).run Try.prog w = .ok (.float .f64 q) w)
    (hT0 : q = T 0) (hT : Halves T) (hL : AngOK (T 3) false xn yn) (hxn : (FloatKind.f32.format.order x 0 == some .lt) = xn) (hyn : (FloatKind.f32.format.order y 0 == some .lt) = yn)
    (hN : ∀ w, (convert 39 34 (.float .f64 (ang3 yn (ang2 xn (ang1 false (ang0 (T 3))))))).run Try.prog w = .ok (.float .f32 v) w) (w : World) :
    Calls Try.prog 40 #[.float .f32 y, .float .f32 x] w fun e w' => e = .returned (.float .f32 v) ∧ ∃ n, w' = w.drewN n := by
  have HT : Hid _ := hT
  have HL : Hid _ := hL
  have HN : Hid _ := hN
  have IY : Hid _ := c_implIsFinite y
  have IX : Hid _ := c_implIsFinite x
  have AY : Hid _ := c_abs y' hy
  have AX : Hid _ := c_abs x' hx
  have IYf : Hid _ := hfy
  have IXf : Hid _ := hfx
  clear hT hL hy hx hN hfy hfx
  have h1 := fin_one
  have h8 := fin_eight
  have h2 := fin_two
  have ht := nz_turn
  have hqf : Fnt 4598175219545276416 := bd_quarter.fin
  have hhf := fin_half
  generalize y' % 9223372036854775808 = a at *
  generalize x' % 9223372036854775808 = b at *
  clear nz
  go_enter Try.func40, Try.ntmps40
  go_wp2_with (first | (go_at_call 43; first | ((with_reducible refine (IY.out _).mono ?_); rw [IYf.out]; rintro e w' ⟨rfl, n, rfl⟩) | ((with_reducible refine (IX.out _).mono ?_); rw [IXf.out]; rintro e w' ⟨rfl, n', rfl⟩)) | (go_at_call 37; first | ((with_reducible refine (AY.out _).mono ?_); rintro e w' ⟨rfl, rfl⟩) | ((with_reducible refine (AX.out _).mono ?_); rintro e w' ⟨rfl, rfl⟩)))
  clear hz hcy hcx hq hT0 IY IX AY AX IYf IXf hz'
  go_loop [7, 43] (fun v i => ∃ j : Nat, j ≤ 3 ∧ v = .float .f64 (T j) ∧ i = .int .i64 j) (fun _ i => 3 - (intOf i).toNat)
  case atStart => exact ⟨0, Nat.zero_le _, rfl, rfl⟩
  case round =>
    obtain ⟨j, hj, rfl, rfl⟩ := hrel
    by_cases hlt : j < 3
    · obtain ⟨a1, a2, a3, s, a4, a5, a6, a7⟩ := HT.out j hlt
      have CS : Hid _ := c_sqrt_ok _ _ a4
      obtain ⟨g', eg⟩ : ∃ g', T (j + 1) = g' := ⟨_, rfl⟩
      rw [eg] at a7
      have HG : Hid _ := eg
      clear eg a4
      generalize T j = g at *
      have hj3 : (j : Int) < 3 := by omega
      go_wp2_with (go_at_call 56; refine (CS.out _).mono ?_; rintro e w' ⟨rfl, rfl⟩)
      go_round
      case rel => exact ⟨j + 1, by omega, by rw [HG.out], by go_num⟩
      case measure => simp [intOf]; omega
    · have h3 : j = 3 := by omega
      subst h3
      have L := HL.out
      obtain ⟨t, et⟩ : ∃ t, T 3 = t := ⟨_, rfl⟩
      rw [et] at L
      rw [et]
      have Lt := L.tf
      have Lu := L.u
      have Lp := L.p
      have Ltp := L.tp
      have Le := L.e
      have L0 := L.a0
      have L1 := L.a1
      obtain ⟨u, eu⟩ : ∃ u, fmul t t = u := ⟨_, rfl⟩
      rw [eu] at Lu Lp Ltp Le
      obtain ⟨A0, e0⟩ : ∃ A0, ang0 t = A0 := ⟨_, rfl⟩
      rw [e0] at L0 L1
      have e0' : fdiv (fmul 4620693217682128896 (fmul t (angS u 8))) 4618760256179416344 = A0 := by rw [← e0, ← eu]; rfl
      have L1' : Fnt (A0) := L1
      have HA : Hid (ang0 (T 3) = A0) := by
        show ang0 (T 3) = A0
        rw [et]; exact e0
      clear et e0 L1 L
      have LU : Hid _ := Lu
      have Lf := Lu.fin
      clear Lu
      go_wp2_with fail
      clear eu
      go_loop [9, 10] (fun v i => ∃ i' : Nat, i' ≤ 8 ∧ v = .float .f64 (angS u i') ∧ i = .float .f64 (floatOfInt .f64 (kA i'))) (fun _ k => mk (bitsF k))
      case atStart => exact ⟨0, Nat.zero_le _, rfl, rfl⟩
      case round =>
        obtain ⟨i, hi, rfl, rfl⟩ := hrel
        by_cases hlt : i < 8
        · obtain ⟨b1, b2, b3, b4⟩ := angS_facts LU.out i hlt
          obtain ⟨c1, c2, c3, c4⟩ := kA_round i hlt
          have C3 : Hid _ := c3
          have HL0 : Hid _ := L0
          have HLp : Hid _ := Lp
          clear c3 Ltp Le e0' L1' L0 Lp
          have b5 : fsub (fdiv 4607182418800017408 (floatOfInt .f64 (kA i))) (fmul u (angS u i)) = angS u (i + 1) := rfl
          go_wp2_with fail
          go_round
          case rel => exact ⟨i + 1, by omega, rfl, rfl⟩
          case measure => exact C3.out
        · have h8 : i = 8 := by omega
          subst h8
          have hk := kA_end
          have hn := HN.out
          rw [HA.out] at hn
          clear hlt hi
          cases xn <;> cases yn
          all_goals simp only [ang1, ang2, ang3, if_true, if_false, Bool.false_eq_true] at hn
          all_goals go_wp2_with fail
          all_goals go_ret
          all_goals exact ⟨rfl, _, rfl⟩
theorem c_angle10 (y x y' x' : Nat) (T : Nat → Nat) (xn yn : Bool) (v : Nat) (hfy : isFin (fv .f32 y) = true) (hfx : isFin (fv .f32 x) = true) (hcy : ∀ w, (convert 34 39 (.float .f32 y)).run Try.prog w = .ok (.float .f64 y') w) (hcx : ∀ w, (convert 34 39 (.float .f32 x)).run Try.prog w = .ok (.float .f64 x') w)
    (hy : y' < 18446744073709551616) (hx : x' < 18446744073709551616) (hz : (FloatKind.f32.format.order x 0 == some .eq) = false)
    (ho : (FloatKind.f64.format.order (y' % 9223372036854775808) (x' % 9223372036854775808) == some .gt) = true) (Fa : Fnt (y' % 9223372036854775808)) (Fb : Fnt (x' % 9223372036854775808)) (nz : NZ (y' % 9223372036854775808))
    (q : Nat) (hq : ∀ w, (binOp .quo 39 (.float .f64 (y' % 9223372036854775808)) (.float .f64 (x' % 9223372036854775808))).run Try.prog w = .ok (.float .f64 q) w)
    (hT0 : fdiv (x' % 9223372036854775808) (y' % 9223372036854775808) = T 0) (hT : Halves T) (hL : AngOK (T 3) true xn yn) (hxn : (FloatKind.f32.format.order x 0 == some .lt) = xn) (hyn : (FloatKind.f32.format.order y 0 == some .lt) = yn)
    (hN : ∀ w, (convert 39 34 (.float .f64 (ang3 yn (ang2 xn (ang1 true (ang0 (T 3))))))).run Try.prog w = .ok (.float .f32 v) w) (w : World) :
    Calls Try.prog 40 #[.float .f32 y, .float .f32 x] w fun e w' => e = .returned (.float .f32 v) ∧ ∃ n, w' = w.drewN n := by
  have HT : Hid _ := hT
  have HL : Hid _ := hL
  have HN : Hid _ := hN
  have IY : Hid _ := c_implIsFinite y
  have IX : Hid _ := c_implIsFinite x
  have AY : Hid _ := c_abs y' hy
  have AX : Hid _ := c_abs x' hx
  have IYf : Hid _ := hfy
  have IXf : Hid _ := hfx
  clear hT hL hy hx hN hfy hfx
  have h1 := fin_one
  have h8 := fin_eight
  have h2 := fin_two
  have ht := nz_turn
  have hqf : Fnt 4598175219545276416 := bd_quarter.fin
  have hhf := fin_half
  generalize y' % 9223372036854775808 = a at *
  generalize x' % 9223372036854775808 = b at *
  skip
  go_enter Try.func40, Try.ntmps40
  go_wp2_with (first | (go_at_call 43; first | ((with_reducible refine (IY.out _).mono ?_); rw [IYf.out]; rintro e w' ⟨rfl, n, rfl⟩) | ((with_reducible refine (IX.out _).mono ?_); rw [IXf.out]; rintro e w' ⟨rfl, n', rfl⟩)) | (go_at_call 37; first | ((with_reducible refine (AY.out _).mono ?_); rintro e w' ⟨rfl, rfl⟩) | ((with_reducible refine (AX.out _).mono ?_); rintro e w' ⟨rfl, rfl⟩)))
  clear hz hcy hcx hq hT0 IY IX AY AX IYf IXf nz
  go_loop [7, 43] (fun v i => ∃ j : Nat, j ≤ 3 ∧ v = .float .f64 (T j) ∧ i = .int .i64 j) (fun _ i => 3 - (intOf i).toNat)
  case atStart => exact ⟨0, Nat.zero_le _, rfl, rfl⟩
  case round =>
    obtain ⟨j, hj, rfl, rfl⟩ := hrel
    by_cases hlt : j < 3
    · obtain ⟨a1, a2, a3, s, a4, a5, a6, a7⟩ := HT.out j hlt
      have CS : Hid _ := c_sqrt_ok _ _ a4
      obtain ⟨g', eg⟩ : ∃ g', T (j + 1) = g' := ⟨_, rfl⟩
      rw [eg] at a7
      have HG : Hid _ := eg
      clear eg a4
      generalize T j = g at *
      have hj3 : (j : Int) < 3 := by omega
      go_wp2_with (go_at_call 56; refine (CS.out _).mono ?_; rintro e w' ⟨rfl, rfl⟩)
      go_round
      case rel => exact ⟨j + 1, by omega, by rw [HG.out], by go_num⟩
      case measure => simp [intOf]; omega
    · have h3 : j = 3 := by omega
      subst h3
      have L := HL.out
      obtain ⟨t, et⟩ : ∃ t, T 3 = t := ⟨_, rfl⟩
      rw [et] at L
      rw [et]
      have Lt := L.tf
      have Lu := L.u
      have Lp := L.p
      have Ltp := L.tp
      have Le := L.e
      have L0 := L.a0
      have L1 := L.a1
      obtain ⟨u, eu⟩ : ∃ u, fmul t t = u := ⟨_, rfl⟩
      rw [eu] at Lu Lp Ltp Le
      obtain ⟨A0, e0⟩ : ∃ A0, ang0 t = A0 := ⟨_, rfl⟩
      rw [e0] at L0 L1
      have e0' : fdiv (fmul 4620693217682128896 (fmul t (angS u 8))) 4618760256179416344 = A0 := by rw [← e0, ← eu]; rfl
      have L1' : Fnt (fsub 4598175219545276416 A0) := L1
      have HA : Hid (ang0 (T 3) = A0) := by
        show ang0 (T 3) = A0
        rw [et]; exact e0
      clear et e0 L1 L
      have LU : Hid _ := Lu
      have Lf := Lu.fin
      clear Lu
      go_wp2_with fail
      clear eu
      go_loop [9, 10] (fun v i => ∃ i' : Nat, i' ≤ 8 ∧ v = .float .f64 (angS u i') ∧ i = .float .f64 (floatOfInt .f64 (kA i'))) (fun _ k => mk (bitsF k))
      case atStart => exact ⟨0, Nat.zero_le _, rfl, rfl⟩
      case round =>
        obtain ⟨i, hi, rfl, rfl⟩ := hrel
        by_cases hlt : i < 8
        · obtain ⟨b1, b2, b3, b4⟩ := angS_facts LU.out i hlt
          obtain ⟨c1, c2, c3, c4⟩ := kA_round i hlt
          have C3 : Hid _ := c3
          have HL0 : Hid _ := L0
          have HLp : Hid _ := Lp
          clear c3 Ltp Le e0' L1' L0 Lp
          have b5 : fsub (fdiv 4607182418800017408 (floatOfInt .f64 (kA i))) (fmul u (angS u i)) = angS u (i + 1) := rfl
          go_wp2_with fail
          go_round
          case rel => exact ⟨i + 1, by omega, rfl, rfl⟩
          case measure => exact C3.out
        · have h8 : i = 8 := by omega
          subst h8
          have hk := kA_end
          have hn := HN.out
          rw [HA.out] at hn
          clear hlt hi
          cases xn <;> cases yn
          all_goals simp only [ang1, ang2, ang3, if_true, if_false, Bool.false_eq_true] at hn
          all_goals go_wp2_with fail
          all_goals go_ret
          all_goals exact ⟨rfl, _, rfl⟩
theorem c_angle11 (y x y' x' : Nat) (T : Nat → Nat) (xn yn : Bool) (v : Nat) (hfy : isFin (fv .f32 y) = true) (hfx : isFin (fv .f32 x) = true) (hcy : ∀ w, (convert 34 39 (.float .f32 y)).run Try.prog w = .ok (.float .f64 y') w) (hcx : ∀ w, (convert 34 39 (.float .f32 x)).run Try.prog w = .ok (.float .f64 x') w)
    (hy : y' < 18446744073709551616) (hx : x' < 18446744073709551616) (hz : (FloatKind.f32.format.order x 0 == some .eq) = true) (hz' : (FloatKind.f32.format.order y 0 == some .eq) = false)
    (ho : (FloatKind.f64.format.order (y' % 9223372036854775808) (x' % 9223372036854775808) == some .gt) = true) (Fa : Fnt (y' % 9223372036854775808)) (Fb : Fnt (x' % 9223372036854775808)) (nz : NZ (y' % 9223372036854775808))
    (q : Nat) (hq : ∀ w, (binOp .quo 39 (.float .f64 (y' % 9223372036854775808)) (.float .f64 (x' % 9223372036854775808))).run Try.prog w = .ok (.float .f64 q) w)
    (hT0 : fdiv (x' % 9223372036854775808) (y' % 9223372036854775808) = T 0) (hT : Halves T) (hL : AngOK (T 3) true xn yn) (hxn : (FloatKind.f32.format.order x 0 == some .lt) = xn) (hyn : (FloatKind.f32.format.order y 0 == some .lt) = yn)
    (hN : ∀ w, (convert 39 34 (.float .f64 (ang3 yn (ang2 xn (ang1 true (ang0 (T 3))))))).run Try.prog w = .ok (.float .f32 v) w) (w : World) :
    Calls Try.prog 40 #[.float .f32 y, .float .f32 x] w fun e w' => e = .returned (.float .f32 v) ∧ ∃ n, w' = w.drewN n := by
  have HT : Hid _ := hT
  have HL : Hid _ := hL
  have HN : Hid _ := hN
  have IY : Hid _ := c_implIsFinite y
  have IX : Hid _ := c_implIsFinite x
  have AY : Hid _ := c_abs y' hy
  have AX : Hid _ := c_abs x' hx
  have IYf : Hid _ := hfy
  have IXf : Hid _ := hfx
  clear hT hL hy hx hN hfy hfx
  have h1 := fin_one
  have h8 := fin_eight
  have h2 := fin_two
  have ht := nz_turn
  have hqf : Fnt 4598175219545276416 := bd_quarter.fin
  have hhf := fin_half
  generalize y' % 9223372036854775808 = a at *
  generalize x' % 9223372036854775808 = b at *
  skip
  go_enter Try.func40, Try.ntmps40
  go_wp2_with (first | (go_at_call 43; first | ((with_reducible refine (IY.out _).mono ?_); rw [IYf.out]; rintro e w' ⟨rfl, n, rfl⟩) | ((with_reducible refine (IX.out _).mono ?_); rw [IXf.out]; rintro e w' ⟨rfl, n', rfl⟩)) | (go_at_call 37; first | ((with_reducible refine (AY.out _).mono ?_); rintro e w' ⟨rfl, rfl⟩) | ((with_reducible refine (AX.out _).mono ?_); rintro e w' ⟨rfl, rfl⟩)))
  clear hz hcy hcx hq hT0 IY IX AY AX IYf IXf hz' nz
  go_loop [7, 43] (fun v i => ∃ j : Nat, j ≤ 3 ∧ v = .float .f64 (T j) ∧ i = .int .i64 j) (fun _ i => 3 - (intOf i).toNat)
  case atStart => exact ⟨0, Nat.zero_le _, rfl, rfl⟩
  case round =>
    obtain ⟨j, hj, rfl, rfl⟩ := hrel
    by_cases hlt : j < 3
    · obtain ⟨a1, a2, a3, s, a4, a5, a6, a7⟩ := HT.out j hlt
      have CS : Hid _ := c_sqrt_ok _ _ a4
      obtain ⟨g', eg⟩ : ∃ g', T (j + 1) = g' := ⟨_, rfl⟩
      rw [eg] at a7
      have HG : Hid _ := eg
      clear eg a4
      generalize T j = g at *
      have hj3 : (j : Int) < 3 := by omega
      go_wp2_with (go_at_call 56; refine (CS.out _).mono ?_; rintro e w' ⟨rfl, rfl⟩)
      go_round
      case rel => exact ⟨j + 1, by omega, by rw [HG.out], by go_num⟩
      case measure => simp [intOf]; omega
    · have h3 : j = 3 := by omega
      subst h3
      have L := HL.out
      obtain ⟨t, et⟩ : ∃ t, T 3 = t := ⟨_, rfl⟩
      rw [et] at L
      rw [et]
      have Lt := L.tf
      have Lu := L.u
      have Lp := L.p
      have Ltp := L.tp
      have Le := L.e
      have L0 := L.a0
      have L1 := L.a1
      obtain ⟨u, eu⟩ : ∃ u, fmul t t = u := ⟨_, rfl⟩
      rw [eu] at Lu Lp Ltp Le
      obtain ⟨A0, e0⟩ : ∃ A0, ang0 t = A0 := ⟨_, rfl⟩
      rw [e0] at L0 L1
      have e0' : fdiv (fmul 4620693217682128896 (fmul t (angS u 8))) 4618760256179416344 = A0 := by rw [← e0, ← eu]; rfl
      have L1' : Fnt (fsub 4598175219545276416 A0) := L1
      have HA : Hid (ang0 (T 3) = A0) := by
        show ang0 (T 3) = A0
        rw [et]; exact e0
      clear et e0 L1 L
      have LU : Hid _ := Lu
      have Lf := Lu.fin
      clear Lu
      go_wp2_with fail
      clear eu
      go_loop [9, 10] (fun v i => ∃ i' : Nat, i' ≤ 8 ∧ v = .float .f64 (angS u i') ∧ i = .float .f64 (floatOfInt .f64 (kA i'))) (fun _ k => mk (bitsF k))
      case atStart => exact ⟨0, Nat.zero_le _, rfl, rfl⟩
      case round =>
        obtain ⟨i, hi, rfl, rfl⟩ := hrel
        by_cases hlt : i < 8
        · obtain ⟨b1, b2, b3, b4⟩ := angS_facts LU.out i hlt
          obtain ⟨c1, c2, c3, c4⟩ := kA_round i hlt
          have C3 : Hid _ := c3
          have HL0 : Hid _ := L0
          have HLp : Hid _ := Lp
          clear c3 Ltp Le e0' L1' L0 Lp
          have b5 : fsub (fdiv 4607182418800017408 (floatOfInt .f64 (kA i))) (fmul u (angS u i)) = angS u (i + 1) := rfl
          go_wp2_with fail
          go_round
          case rel => exact ⟨i + 1, by omega, rfl, rfl⟩
          case measure => exact C3.out
        · have h8 : i = 8 := by omega
          subst h8
          have hk := kA_end
          have hn := HN.out
          rw [HA.out] at hn
          clear hlt hi
          cases xn <;> cases yn
          all_goals simp only [ang1, ang2, ang3, if_true, if_false, Bool.false_eq_true] at hn
          all_goals go_wp2_with fail
          all_goals go_ret
          all_goals exact ⟨rfl, _, rfl⟩
end Go.Proofs.Ytiabbafmjgiobaa
