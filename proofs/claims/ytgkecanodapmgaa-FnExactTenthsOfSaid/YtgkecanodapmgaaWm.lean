/-
The walks of the logarithm in both packages, and the law on TenthsOf.
-/
import Derived.Test.YtgkecanodapmgaaWl
set_option linter.unusedVariables false
set_option linter.unusedSimpArgs false
namespace Go.Proofs.Ytgkecanodapmgaa
open Fl Go.RowKit

theorem c_naturalLog0 (U D : Nat → Nat) (n m : Nat) (hs : Rounds U D n m) (w : World) : Calls Try.prog 57 #[.float .f64 (U 0)] w fun e w' => e = .returned (.float .f64 (logN (D m) ((n : Int) - m))) ∧ w = w' := by
  have HS : Hid _ := hs
  clear hs
  have h1 := fin_one
  have h2 := nz_two
  have h3 := fin_two
  have hln := fin_ln2
  have hz := fin_zero
  go_enter Try.func57, Try.ntmps57
  go_wp2_with fail
  go_loop [0, 3] (fun v i => ∃ j : Nat, j ≤ n ∧ v = .float .f64 (U j) ∧ i = .float .f64 (floatOfInt .f64 (j : Int))) (fun v _ => bitsF v)
  case atStart => exact ⟨0, Nat.zero_le _, rfl, rfl⟩
  case round =>
    obtain ⟨j, hj, rfl, rfl⟩ := hrel
    by_cases hlt : j < n
    · obtain ⟨a1, a2, a3, a4, a5, a6⟩ := HS.out.up j hlt
      have A6 : Hid _ := a6
      clear a6
      obtain ⟨g', eg⟩ : ∃ g', U (j + 1) = g' := ⟨_, rfl⟩
      rw [eg] at a3 A6
      have HG : Hid _ := eg
      clear eg
      generalize U j = g at *
      go_wp2_with fail
      go_round
      case rel => exact ⟨j + 1, by omega, by rw [HG.out], rfl⟩
      case measure => exact A6.out
    · have hjn : j = n := by omega
      subst hjn
      have a1 := HS.out.end_up
      go_wp2_with fail
      clear a1 hlt hj
      go_loop [0, 3] (fun v i => ∃ q : Nat, q ≤ m ∧ v = .float .f64 (D q) ∧ i = .float .f64 (floatOfInt .f64 ((j : Int) - q))) (fun v _ => 4609434218613702656 - bitsF v)
      case atStart => exact ⟨0, Nat.zero_le _, by rw [HS.out.d0], by simp⟩
      case round =>
        obtain ⟨q, hq, rfl, rfl⟩ := hrel
        by_cases hlt : q < m
        · obtain ⟨a1, a2, a3, a4, a5, a6⟩ := HS.out.dn q hlt
          have A6 : Hid _ := a6
          clear a6
          obtain ⟨g', eg⟩ : ∃ g', D (q + 1) = g' := ⟨_, rfl⟩
          rw [eg] at a3 A6
          have HG : Hid _ := eg
          clear eg
          generalize D q = z at *
          go_wp2_with fail
          go_round
          case rel => exact ⟨q + 1, by omega, by rw [HG.out], rfl⟩
          case measure => exact A6.out
        · have hqm : q = m := by omega
          subst hqm
          have a1 := HS.out.end_dn
          have L := HS.out.log
          have hy := HS.out.fin
          clear HS hlt hq
          obtain ⟨y, ey⟩ : ∃ y, D q = y := ⟨_, rfl⟩
          obtain ⟨e, ee⟩ : ∃ e, (j : Int) - q = e := ⟨_, rfl⟩
          rw [ey] at hy a1
          rw [ey, ee] at L
          rw [ey, ee]
          have La := L.a
          have Lb := L.b
          have Ls := L.s
          have Lu := L.u
          have Lq := L.q
          have Lsq := L.sq
          have Lt := L.t
          have Le := L.ee
          have Ll := L.l
          clear L
          obtain ⟨s, es⟩ : ∃ s, lgS y = s := ⟨_, rfl⟩
          rw [es] at Ls Lu Lq Lsq Lt
          obtain ⟨u, eu⟩ : ∃ u, fmul s s = u := ⟨_, rfl⟩
          rw [eu] at Lu Lq Lsq Lt
          have HF : Hid (logN (D q) ((j : Int) - q) = fadd (fmul 4611686018427387904 (fmul s (logS u 13))) (fmul (floatOfInt .f64 e) 4604418534313441775)) := by
            show logN _ _ = _
            rw [ey, ee]
            unfold logN; rw [es, eu]
          clear ey ee
          have es' : fdiv (fsub y 4607182418800017408) (fadd y 4607182418800017408) = s := es
          clear es
          have LU : Hid _ := Lu
          have Lf := Lu.fin
          clear Lu
          go_wp2_with fail
          clear es' eu La Lb a1
          go_loop [6, 7] (fun v i => ∃ i' : Nat, i' ≤ 13 ∧ v = .float .f64 (logS u i') ∧ i = .float .f64 (floatOfInt .f64 (kO i'))) (fun _ k => mk (bitsF k))
          case atStart => exact ⟨0, Nat.zero_le _, rfl, rfl⟩
          case round =>
            obtain ⟨i, hi, rfl, rfl⟩ := hrel
            by_cases hlt : i < 13
            · obtain ⟨b1, b2, b3, b4⟩ := logS_facts LU.out i hlt
              obtain ⟨c1, c2, c3, c4⟩ := kO_round i hlt
              have C3 : Hid _ := c3
              clear c3 Lq Lsq Lt
              have b5 : fadd (fdiv 4607182418800017408 (floatOfInt .f64 (kO i))) (fmul u (logS u i)) = logS u (i + 1) := rfl
              go_wp2_with fail
              go_round
              case rel => exact ⟨i + 1, by omega, rfl, rfl⟩
              case measure => exact C3.out
            · have h13 : i = 13 := by omega
              subst h13
              have hk := kO_end
              go_wp2_with fail
              go_ret
              exact ⟨by rw [HF.out]; rfl, rfl⟩

theorem c_logWide0 (U D : Nat → Nat) (n m : Nat) (hs : Rounds U D n m) (hfy : Fnt (U 0)) (hp : (FloatKind.f64.format.order (U 0) (U 0) != some .eq) = false ∧ (FloatKind.f64.format.order (U 0) 0 == some .lt) = false ∧ (FloatKind.f64.format.order (U 0) 0 == some .eq) = false ∧ (FloatKind.f64.format.order (U 0) 9218868437227405311 == some .gt) = false) (w : World) : Calls Try.prog 65 #[.float .f64 (U 0)] w fun e w' => e = .returned (.float .f64 (logN (D m) ((n : Int) - m))) ∧ w = w' := by
  have HS : Hid _ := hs
  obtain ⟨p1, p2, p3, p4⟩ := hp
  have hinf := c_isInf (U 0) p4
  have HI : Hid _ := hinf
  clear hinf p4
  clear hs
  have h1 := fin_one
  have h2 := nz_two
  have h3 := fin_two
  have hln := fin_ln2
  have hz := fin_zero
  go_enter Try.func65, Try.ntmps65
  go_wp2_with (go_at_call 71; refine (HI.out _).mono ?_; rintro e w' ⟨rfl, rfl⟩)
  go_loop [0, 3] (fun v i => ∃ j : Nat, j ≤ n ∧ v = .float .f64 (U j) ∧ i = .int .i64 (j : Int)) (fun v _ => bitsF v)
  case atStart => exact ⟨0, Nat.zero_le _, rfl, rfl⟩
  case round =>
    obtain ⟨j, hj, rfl, rfl⟩ := hrel
    by_cases hlt : j < n
    · obtain ⟨a1, a2, a3, a4, a5, a6⟩ := HS.out.up j hlt
      have A6 : Hid _ := a6
      clear a6
      have hjn0 : (j : Int) ≤ 129 := by have := HS.out.n_le; omega
      obtain ⟨g', eg⟩ : ∃ g', U (j + 1) = g' := ⟨_, rfl⟩
      rw [eg] at a3 A6
      have HG : Hid _ := eg
      clear eg
      generalize U j = g at *
      go_wp2_with fail
      go_round
      case rel => exact ⟨j + 1, by omega, by rw [HG.out], by go_num⟩
      case measure => exact A6.out
    · have hjn : j = n := by omega
      subst hjn
      have a1 := HS.out.end_up
      go_wp2_with fail
      clear a1 hlt hj
      go_loop [0, 3] (fun v i => ∃ q : Nat, q ≤ m ∧ v = .float .f64 (D q) ∧ i = .int .i64 ((j : Int) - q)) (fun v _ => 4609434218613702656 - bitsF v)
      case atStart => exact ⟨0, Nat.zero_le _, by rw [HS.out.d0], by simp⟩
      case round =>
        obtain ⟨q, hq, rfl, rfl⟩ := hrel
        by_cases hlt : q < m
        · obtain ⟨a1, a2, a3, a4, a5, a6⟩ := HS.out.dn q hlt
          have A6 : Hid _ := a6
          clear a6
          have hjn0 : (j : Int) ≤ 129 ∧ (q : Int) ≤ 150 := by have := HS.out.n_le; have := HS.out.m_le; omega
          obtain ⟨g', eg⟩ : ∃ g', D (q + 1) = g' := ⟨_, rfl⟩
          rw [eg] at a3 A6
          have HG : Hid _ := eg
          clear eg
          generalize D q = z at *
          go_wp2_with fail
          go_round
          case rel => exact ⟨q + 1, by omega, by rw [HG.out], by go_num⟩
          case measure => exact A6.out
        · have hqm : q = m := by omega
          subst hqm
          have a1 := HS.out.end_dn
          have L := HS.out.log
          have hy := HS.out.fin
          clear HS hlt hq
          obtain ⟨y, ey⟩ : ∃ y, D q = y := ⟨_, rfl⟩
          obtain ⟨e, ee⟩ : ∃ e, (j : Int) - q = e := ⟨_, rfl⟩
          rw [ey] at hy a1
          rw [ey, ee] at L
          rw [ey, ee]
          have La := L.a
          have Lb := L.b
          have Ls := L.s
          have Lu := L.u
          have Lq := L.q
          have Lsq := L.sq
          have Lt := L.t
          have Le := L.ee
          have Ll := L.l
          clear L
          obtain ⟨s, es⟩ : ∃ s, lgS y = s := ⟨_, rfl⟩
          rw [es] at Ls Lu Lq Lsq Lt
          obtain ⟨u, eu⟩ : ∃ u, fmul s s = u := ⟨_, rfl⟩
          rw [eu] at Lu Lq Lsq Lt
          have HF : Hid (logN (D q) ((j : Int) - q) = fadd (fmul 4611686018427387904 (fmul s (logS u 13))) (fmul (floatOfInt .f64 e) 4604418534313441775)) := by
            show logN _ _ = _
            rw [ey, ee]
            unfold logN; rw [es, eu]
          clear ey ee
          have es' : fdiv (fsub y 4607182418800017408) (fadd y 4607182418800017408) = s := es
          clear es
          have LU : Hid _ := Lu
          have Lf := Lu.fin
          clear Lu
          go_wp2_with fail
          clear es' eu La Lb a1
          go_loop [6, 7] (fun v i => ∃ i' : Nat, i' ≤ 13 ∧ v = .float .f64 (logS u i') ∧ i = .int .i64 (kO i')) (fun _ k => (intOf k).toNat + 1 - 0)
          case atStart => exact ⟨0, Nat.zero_le _, rfl, rfl⟩
          case round =>
            obtain ⟨i, hi, rfl, rfl⟩ := hrel
            by_cases hlt : i < 13
            · obtain ⟨b1, b2, b3, b4⟩ := logS_facts LU.out i hlt
              obtain ⟨c1, c2, c3, c4⟩ := kO_round i hlt
              have C3 : Hid _ := c3
              clear c3 Lq Lsq Lt
              have b5 : fadd (fdiv 4607182418800017408 (floatOfInt .f64 (kO i))) (fmul u (logS u i)) = logS u (i + 1) := rfl
              have hki : -1 ≤ kO i ∧ kO i ≤ 25 ∧ 1 ≤ kO i := by unfold kO; omega
              obtain ⟨kk, ekk⟩ : ∃ kk, kO i = kk := ⟨_, rfl⟩
              rw [ekk] at hki b3 b4 b5 c1 c2 c4 C3 ⊢
              have HKK : Hid (kO (i + 1) = kk - 2) := by
                show kO (i + 1) = kk - 2
                rw [← ekk]; unfold kO; omega
              clear c1 c2 C3 ekk
              go_wp2_with fail
              go_round
              case rel => exact ⟨i + 1, by omega, rfl, by rw [HKK.out]⟩
              case measure => simp [intOf]; omega
            · have h13 : i = 13 := by omega
              subst h13
              have hk : kO 13 = -1 := rfl
              rw [hk]
              go_wp2_with fail
              go_ret
              exact ⟨by rw [HF.out]; rfl, rfl⟩

theorem log_both (r : Nat) (h1 : 3936146074321813504 ≤ r) (h2 : r ≤ 5183643171103440896) : ∃ v, (∀ w, Calls Try.prog 57 #[.float .f64 (Ieee.double.word false r)] w fun e w' => e = .returned (.float .f64 v) ∧ w = w') ∧
    (∀ w, Calls Try.prog 65 #[.float .f64 (Ieee.double.word false r)] w fun e w' => e = .returned (.float .f64 v) ∧ w = w') ∧ Fnt v ∧ Fnt (fmul v 4631308968768463603) ∧ Bd (fadd (fmul v 4631308968768463603) 4602678819172646912) 49 := by
  obtain ⟨n, m, H⟩ := steps h1 h2
  have R := rounds H
  have e := upW_zero r
  rw [← e]
  exact ⟨_, fun w => c_naturalLog0 _ _ n m R w, fun w => c_logWide0 _ _ n m R (start_fin H) (pos_word H) w, R.log.n.fin, R.log.m, R.log.x⟩

@[go_sem] theorem x_floor {x : Nat} (h : Fnt x) (w : World) : (callFunc 66 #[.float .f64 x]).run Try.prog w = .ok (.value (.float .f64 (floorN x))) w := by
  obtain ⟨s, m, e, hd⟩ := h
  rw [run_callFunc_extern Try.func66 (by kernel_rfl) (by kernel_rfl) (by kernel_rfl) (e := Extern.MathFloor.toIntegral "math.archFloor" .down) (by kernel_rfl)]
  have hd' : FloatKind.f64.decode x = .number s m e := hd
  have hq : Extern.MathFloor.toIntegral "math.archFloor" .down #[.float .f64 x] = pure (.float .f64 (floorN x)) := by
    obtain ⟨G, hG⟩ : ∃ G : Bool → Nat → Sem Value, Extern.MathFloor.toIntegral "math.archFloor" .down #[.float .f64 x] = (match FloatKind.f64.decode x with | .nan s t => G s t | d => pure (.float .f64 (FloatKind.f64.encode (d.integral .down)))) := ⟨_, rfl⟩
    rw [hG]
    unfold floorN
    rw [hd']
  rw [hq]; rfl
theorem c_floor (x : Nat) (h : Fnt x) (w : World) : Calls Try.prog 56 #[.float .f64 x] w fun e w' => e = .returned (.float .f64 (floorN x)) ∧ w = w' := by
  go_enter Try.func56, Try.ntmps56
  go_wp2_with fail
  go_ret
  exact ⟨rfl, rfl⟩

/-- a finite float32 that is not at most zero is positive -/
theorem pos_single {x : Nat} (hx : x < 4294967296) (hf : isFin (fv .f32 x) = true) (h : ((FloatKind.f32.format.order x 0 == some .lt) || (FloatKind.f32.format.order x 0 == some .eq)) = false) : 0 < x ∧ x < 2147483648 := by
  rw [isFin_iff hx] at hf
  simp only [Bool.and_eq_true, Bool.not_eq_true', decide_eq_true_eq] at hf
  have e : Ieee.single.signWeight = 2147483648 := rfl
  have hr := read_rung Ieee.single x (by rw [e]; exact hf.2)
  have h0 : Ieee.single.read 0 = .number false (sig Ieee.single 0) (Ieee.single.leastPlace + (exq Ieee.single 0 : Nat)) := read_word Ieee.single false 0 (by decide)
  have hz : un Ieee.single 0 = 0 := un_small Ieee.single (by decide)
  have ho : FloatKind.f32.format.order x 0 = some (compare (if (x / Ieee.single.signWeight % 2 == 1) then -(un Ieee.single (x % Ieee.single.signWeight) : Int) else (un Ieee.single (x % Ieee.single.signWeight) : Int)) (if false = true then -(un Ieee.single 0 : Int) else (un Ieee.single 0 : Int))) := by
    show (Ieee.single.read x).order (Ieee.single.read 0) = _
    rw [hr, h0, order_number]
  rw [sign_single hx, hz] at ho
  rw [ho, cmp_lt, cmp_eq] at h
  simp only [Bool.or_eq_false_iff, decide_eq_false_iff_not, Bool.false_eq_true, if_false] at h
  by_cases h31 : 2147483648 ≤ x
  · exfalso
    rw [if_pos (decide_eq_true h31)] at h
    omega
  · refine ⟨?_, by omega⟩
    rcases Nat.eq_zero_or_pos x with h3 | h3
    · exfalso
      subst h3
      rw [if_neg (by simp)] at h
      have h4 : un Ieee.single (0 % Ieee.single.signWeight) = 0 := hz
      rw [h4] at h
      exact h.2 rfl
    · exact h3
theorem rung_lo : un Ieee.double 3936146074321813504 = 2 ^ 925 := by
  have s1 : sig Ieee.double 3936146074321813504 = 2 ^ 52 := rfl
  have s2 : exq Ieee.double 3936146074321813504 = 873 := rfl
  unfold un; rw [s1, s2]; exact pow_sum 52 873 925 rfl
theorem rung_hi : un Ieee.double 5183643171103440896 = 2 ^ 1202 := by
  have s1 : sig Ieee.double 5183643171103440896 = 2 ^ 52 := rfl
  have s2 : exq Ieee.double 5183643171103440896 = 1150 := rfl
  unfold un; rw [s1, s2]; exact pow_sum 52 1150 1202 rfl

/-- a positive finite float32 as a double -/
theorem widen_pos {x : Nat} (hx : x < 4294967296) (hf : isFin (fv .f32 x) = true) (hp : 0 < x ∧ x < 2147483648) : ∃ r, 3936146074321813504 ≤ r ∧ r ≤ 5183643171103440896 ∧ ∀ w, (convert 22 26 (.float .f32 x)).run Try.prog w = .ok (.float .f64 (Ieee.double.word false r)) w := by
  obtain ⟨y, hF, hy, hB, hc, hconv⟩ := widen_one hx hf
  rw [isFin_iff hx] at hf
  simp only [Bool.and_eq_true, Bool.not_eq_true', decide_eq_true_eq] at hf
  obtain ⟨r', h1, h2, h3, _⟩ := widen_word hx hf.1
  rw [decide_eq_false (by omega), hc] at h2
  have e2 := Option.some.inj h2
  rw [e2] at hB hconv
  obtain ⟨h4, h5⟩ := h3 hf.2
  have e : Ieee.single.signWeight = 2147483648 := rfl
  have hx0 : x % Ieee.single.signWeight = x := by rw [e]; exact Nat.mod_eq_of_lt hp.2
  have hu1 : 1 ≤ un Ieee.single (x % Ieee.single.signWeight) := by
    rw [hx0]
    have := un_lt Ieee.single hp.1
    omega
  refine ⟨r', ?_, ?_, hconv⟩
  · refine (un_le_iff Ieee.double _ _).1 ?_
    rw [rung_lo, h5]
    exact Nat.le_mul_of_pos_left _ hu1
  · have hu := un_bd h4 (by decide) hB
    refine (un_le_iff Ieee.double _ _).1 ?_
    have e3 : ((128 : Int) + 1074).toNat = 1202 := rfl
    rw [e3] at hu
    rw [rung_hi]
    exact hu

theorem tenths_pos (x : Nat) (hx : x < 4294967296) (hf : isFin (fv .f32 x) = true) (h : ((FloatKind.f32.format.order x 0 == some .lt) || (FloatKind.f32.format.order x 0 == some .eq)) = false) : ∃ t : Int,
    (∀ w, Calls Try.prog 30 #[.float .f32 x] w fun e w' => e = .returned (.tuple #[.int .i64 t, .bool true]) ∧ ∃ n, w' = w.drewN n) ∧
    (∀ w, Calls Try.prog 31 #[.float .f32 x] w fun e w' => e = .returned (.tuple #[.int .i64 t, .bool true]) ∧ ∃ n, w' = w.drewN n) := by
  obtain ⟨r, h1, h2, hconv⟩ := widen_pos hx hf (pos_single hx hf h)
  obtain ⟨v, c1, c2, f1, f2, b3⟩ := log_both r h1 h2
  have f3 := b3.fin
  have hb := floor_bd b3 (by decide) (by decide)
  obtain ⟨t, hcv, _⟩ := frac_sub hb.fin (hb.mono (by decide))
  have hcv' : ∀ w, (convert 26 2 (.float .f64 (floorN (fadd (fmul v 4631308968768463603) 4602678819172646912)))).run Try.prog w = .ok (.int .i64 t) w := fun w => run_convert_float_int w _ _ _ _ _ t (by rw [Try.underlying26]; rfl) Try.underlying2 hcv
  have h43 := fin_43
  have hhf := fin_half
  have C1 : Hid _ := c1
  have C2 : Hid _ := c2
  have CF : Hid _ := c_floor _ f3
  clear c1 c2 b3 hb hcv
  generalize Ieee.double.word false r = y at *
  have hspec : ∀ w, Calls Try.prog 55 #[.float .f32 x] w fun e w' => e = .returned (.int .i64 t) ∧ w = w' := by
    intro w
    go_enter Try.func55, Try.ntmps55
    go_wp2_with (first | (go_at_call 65; refine (C2.out _).mono ?_; rintro e w' ⟨rfl, rfl⟩) | (go_at_call 56; refine (CF.out _).mono ?_; rintro e w' ⟨rfl, rfl⟩))
    go_ret
    exact ⟨rfl, rfl⟩
  refine ⟨t, fun w => ?_, fun w => ?_⟩
  · have CS : Hid _ := hspec
    clear hspec C1 C2 CF hconv hcv' f1 f2 f3
    go_enter Try.func30, Try.ntmps30
    go_wp2_with (first | (go_at_call 54; refine (c_l01Finite _ _).mono ?_; rw [hf]; rintro e w' ⟨rfl, n, rfl⟩) | (go_at_call 55; refine (CS.out _).mono ?_; rintro e w' ⟨rfl, rfl⟩))
    go_ret2
    exact ⟨rfl, _, rfl⟩
  · clear hspec
    go_enter Try.func31, Try.ntmps31
    go_wp2_with (first | (go_at_call 45; refine (c_implIsFinite _ _).mono ?_; rw [hf]; rintro e w' ⟨rfl, n, rfl⟩) | (go_at_call 57; refine (C1.out _).mono ?_; rintro e w' ⟨rfl, rfl⟩) | (go_at_call 56; refine (CF.out _).mono ?_; rintro e w' ⟨rfl, rfl⟩))
    go_ret2
    exact ⟨rfl, _, rfl⟩
theorem tenths_no (x : Nat) (h : isFin (fv .f32 x) = false ∨ isFin (fv .f32 x) = true ∧ ((FloatKind.f32.format.order x 0 == some .lt) || (FloatKind.f32.format.order x 0 == some .eq)) = true) :
    (∀ w, Calls Try.prog 30 #[.float .f32 x] w fun e w' => e = .returned (.tuple #[.int .i64 0, .bool false]) ∧ ∃ n, w' = w.drewN n) ∧
    (∀ w, Calls Try.prog 31 #[.float .f32 x] w fun e w' => e = .returned (.tuple #[.int .i64 0, .bool false]) ∧ ∃ n, w' = w.drewN n) := by
  rcases h with hf | ⟨hf, hz⟩
  · refine ⟨fun w => ?_, fun w => ?_⟩
    · go_enter Try.func30, Try.ntmps30
      go_wp2_with (go_at_call 54; refine (c_l01Finite _ _).mono ?_; rw [hf]; rintro e w' ⟨rfl, n, rfl⟩)
      go_ret2
      exact ⟨rfl, _, rfl⟩
    · go_enter Try.func31, Try.ntmps31
      go_wp2_with (go_at_call 45; refine (c_implIsFinite _ _).mono ?_; rw [hf]; rintro e w' ⟨rfl, n, rfl⟩)
      go_ret2
      exact ⟨rfl, _, rfl⟩
  · refine ⟨fun w => ?_, fun w => ?_⟩
    · go_enter Try.func30, Try.ntmps30
      go_wp2_with (go_at_call 54; refine (c_l01Finite _ _).mono ?_; rw [hf]; rintro e w' ⟨rfl, n, rfl⟩)
      go_ret2
      exact ⟨rfl, _, rfl⟩
    · go_enter Try.func31, Try.ntmps31
      go_wp2_with (go_at_call 45; refine (c_implIsFinite _ _).mono ?_; rw [hf]; rintro e w' ⟨rfl, n, rfl⟩)
      go_ret2
      exact ⟨rfl, _, rfl⟩
theorem tenths_both (x : Nat) (hx : x < 4294967296) : ∃ (t : Int) (b : Bool), (∀ w, Calls Try.prog 30 #[.float .f32 x] w fun e w' => e = .returned (.tuple #[.int .i64 t, .bool b]) ∧ ∃ n, w' = w.drewN n) ∧
    (∀ w, Calls Try.prog 31 #[.float .f32 x] w fun e w' => e = .returned (.tuple #[.int .i64 t, .bool b]) ∧ ∃ n, w' = w.drewN n) := by
  cases hf : isFin (fv .f32 x)
  · exact ⟨0, false, tenths_no x (.inl hf)⟩
  · cases hz : ((FloatKind.f32.format.order x 0 == some .lt) || (FloatKind.f32.format.order x 0 == some .eq))
    · obtain ⟨t, h⟩ := tenths_pos x hx hf hz
      exact ⟨t, true, h⟩
    · exact ⟨0, false, tenths_no x (.inr ⟨hf, hz⟩)⟩

theorem walk_FnExactTenthsOf (x : Nat) (wx : (Lit.float .f32 x).wf = true) (w : World) : Calls Try.prog 10 #[.float .f32 x] w (Law w) := by
  have hx := wf32 wx
  clear wx
  obtain ⟨t, b, h1, h2⟩ := tenths_both x hx
  have H1 : Hid _ := h1
  have H2 : Hid _ := h2
  clear h1 h2
  go_enter Try.func10, Try.ntmps10
  go_wp2_with (first | (go_at_call 30; refine (H1.out _).mono ?_; rintro e w' ⟨rfl, n, rfl⟩) | (go_at_call 31; refine (H2.out _).mono ?_; rintro e w' ⟨rfl, n, rfl⟩))
  all_goals go_ret
  all_goals exact ⟨rfl, below_n (Below.refl _ _) _⟩

end Go.Proofs.Ytgkecanodapmgaa
