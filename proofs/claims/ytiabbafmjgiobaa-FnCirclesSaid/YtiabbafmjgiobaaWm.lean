/-
The walks of the logarithm in both packages, and the law on TenthsOf.
-/
import Derived.Test.YtiabbafmjgiobaaWl
set_option linter.unusedVariables false
set_option linter.unusedSimpArgs false
namespace Go.Proofs.Ytiabbafmjgiobaa
open Fl Go.RowKit

theorem c_naturalLog0 (U D : Nat → Nat) (n m : Nat) (hs : Rounds U D n m) (w : World) : Calls Try.prog 45 #[.float .f64 (U 0)] w fun e w' => e = .returned (.float .f64 (logN (D m) ((n : Int) - m))) ∧ w = w' := by
  have HS : Hid _ := hs
  clear hs
  have h1 := fin_one
  have h2 := nz_two
  have h3 := fin_two
  have hln := fin_ln2
  have hz := fin_zero
  go_enter Try.func45, Try.ntmps45
  go_wp2_with fail
  go_loop [0, 3] (fun v i => ∃ j : Nat, j ≤ n ∧ v = .float .f64 (U j) ∧ i = .float .f64 (floatOfInt .f64 (j : Int))) (fun v _ => bitsF v)
  case atStart => exact ⟨0, Nat.zero_le _, rfl, rfl⟩
  case round =>
    obtain ⟨j, hj, rfl, rfl⟩ := hrel
    by_cases hlt : j < n
    · obtain ⟨a1, a2, a3, a4, a5, a6⟩ := HS.out.up j hlt
      have A6 : Hid _ := a6
      clear a6
      obtain ⟨g', eg⟩ : ∃ g', U (j + 1) = g' := ⟨_, rfl⟩
      rw [eg] at a3 A6
      have HG : Hid _ := eg
      clear eg
      generalize U j = g at *
      go_wp2_with fail
      go_round
      case rel => exact ⟨j + 1, by omega, by rw [HG.out], rfl⟩
      case measure => exact A6.out
    · have hjn : j = n := by omega
      subst hjn
      have a1 := HS.out.end_up
      go_wp2_with fail
      clear a1 hlt hj
      go_loop [0, 3] (fun v i => ∃ q : Nat, q ≤ m ∧ v = .float .f64 (D q) ∧ i = .float .f64 (floatOfInt .f64 ((j : Int) - q))) (fun v _ => 4609434218613702656 - bitsF v)
      case atStart => exact ⟨0, Nat.zero_le _, by rw [HS.out.d0], by simp⟩
      case round =>
        obtain ⟨q, hq, rfl, rfl⟩ := hrel
        by_cases hlt : q < m
        · obtain ⟨a1, a2, a3, a4, a5, a6⟩ := HS.out.dn q hlt
          have A6 : Hid _ := a6
          clear a6
          obtain ⟨g', eg⟩ : ∃ g', D (q + 1) = g' := ⟨_, rfl⟩
          rw [eg] at a3 A6
          have HG : Hid _ := eg
          clear eg
          generalize D q = z at *
          go_wp2_with fail
          go_round
          case rel => exact ⟨q + 1, by omega, by rw [HG.out], rfl⟩
          case measure => exact A6.out
        · have hqm : q = m := by omega
          subst hqm
          have a1 := HS.out.end_dn
          have L := HS.out.log
          have hy := HS.out.fin
          clear HS hlt hq
          obtain ⟨y, ey⟩ : ∃ y, D q = y := ⟨_, rfl⟩
          obtain ⟨e, ee⟩ : ∃ e, (j : Int) - q = e := ⟨_, rfl⟩
          rw [ey] at hy a1
          rw [ey, ee] at L
          rw [ey, ee]
          have La := L.a
          have Lb := L.b
          have Ls := L.s
          have Lu := L.u
          have Lq := L.q
          have Lsq := L.sq
          have Lt := L.t
          have Le := L.ee
          have Ll := L.l
          clear L
          obtain ⟨s, es⟩ : ∃ s, lgS y = s := ⟨_, rfl⟩
          rw [es] at Ls Lu Lq Lsq Lt
          obtain ⟨u, eu⟩ : ∃ u, fmul s s = u := ⟨_, rfl⟩
          rw [eu] at Lu Lq Lsq Lt
          have HF : Hid (logN (D q) ((j : Int) - q) = fadd (fmul 4611686018427387904 (fmul s (logS u 13))) (fmul (floatOfInt .f64 e) 4604418534313441775)) := by
            show logN _ _ = _
            rw [ey, ee]
            unfold logN; rw [es, eu]
          clear ey ee
          have es' : fdiv (fsub y 4607182418800017408) (fadd y 4607182418800017408) = s := es
          clear es
          have LU : Hid _ := Lu
          have Lf := Lu.fin
          clear Lu
          go_wp2_with fail
          clear es' eu La Lb a1
          go_loop [6, 7] (fun v i => ∃ i' : Nat, i' ≤ 13 ∧ v = .float .f64 (logS u i') ∧ i = .float .f64 (floatOfInt .f64 (kO i'))) (fun _ k => mk (bitsF k))
          case atStart => exact ⟨0, Nat.zero_le _, rfl, rfl⟩
          case round =>
            obtain ⟨i, hi, rfl, rfl⟩ := hrel
            by_cases hlt : i < 13
            · obtain ⟨b1, b2, b3, b4⟩ := logS_facts LU.out i hlt
              obtain ⟨c1, c2, c3, c4⟩ := kO_round i hlt
              have C3 : Hid _ := c3
              clear c3 Lq Lsq Lt
              have b5 : fadd (fdiv 4607182418800017408 (floatOfInt .f64 (kO i))) (fmul u (logS u i)) = logS u (i + 1) := rfl
              go_wp2_with fail
              go_round
              case rel => exact ⟨i + 1, by omega, rfl, rfl⟩
              case measure => exact C3.out
            · have h13 : i = 13 := by omega
              subst h13
              have hk := kO_end
              go_wp2_with fail
              go_ret
              exact ⟨by rw [HF.out]; rfl, rfl⟩

@[go_sem] theorem x_floor {x : Nat} (h : Fnt x) (w : World) : (callFunc 57 #[.float .f64 x]).run Try.prog w = .ok (.value (.float .f64 (floorN x))) w := by
  obtain ⟨s, m, e, hd⟩ := h
  rw [run_callFunc_extern Try.func57 (by kernel_rfl) (by kernel_rfl) (by kernel_rfl) (e := Extern.MathFloor.toIntegral "math.archFloor" .down) (by kernel_rfl)]
  have hd' : FloatKind.f64.decode x = .number s m e := hd
  have hq : Extern.MathFloor.toIntegral "math.archFloor" .down #[.float .f64 x] = pure (.float .f64 (floorN x)) := by
    obtain ⟨G, hG⟩ : ∃ G : Bool → Nat → Sem Value, Extern.MathFloor.toIntegral "math.archFloor" .down #[.float .f64 x] = (match FloatKind.f64.decode x with | .nan s t => G s t | d => pure (.float .f64 (FloatKind.f64.encode (d.integral .down)))) := ⟨_, rfl⟩
    rw [hG]
    unfold floorN
    rw [hd']
  rw [hq]; rfl
theorem c_floor (x : Nat) (h : Fnt x) (w : World) : Calls Try.prog 44 #[.float .f64 x] w fun e w' => e = .returned (.float .f64 (floorN x)) ∧ w = w' := by
  go_enter Try.func44, Try.ntmps44
  go_wp2_with fail
  go_ret
  exact ⟨rfl, rfl⟩

/-- a finite float32 that is not at most zero is positive -/
theorem pos_single {x : Nat} (hx : x < 4294967296) (hf : isFin (fv .f32 x) = true) (h : ((FloatKind.f32.format.order x 0 == some .lt) || (FloatKind.f32.format.order x 0 == some .eq)) = false) : 0 < x ∧ x < 2147483648 := by
  rw [isFin_iff hx] at hf
  simp only [Bool.and_eq_true, Bool.not_eq_true', decide_eq_true_eq] at hf
  have e : Ieee.single.signWeight = 2147483648 := rfl
  have hr := read_rung Ieee.single x (by rw [e]; exact hf.2)
  have h0 : Ieee.single.read 0 = .number false (sig Ieee.single 0) (Ieee.single.leastPlace + (exq Ieee.single 0 : Nat)) := read_word Ieee.single false 0 (by decide)
  have hz : un Ieee.single 0 = 0 := un_small Ieee.single (by decide)
  have ho : FloatKind.f32.format.order x 0 = some (compare (if (x / Ieee.single.signWeight % 2 == 1) then -(un Ieee.single (x % Ieee.single.signWeight) : Int) else (un Ieee.single (x % Ieee.single.signWeight) : Int)) (if false = true then -(un Ieee.single 0 : Int) else (un Ieee.single 0 : Int))) := by
    show (Ieee.single.read x).order (Ieee.single.read 0) = _
    rw [hr, h0, order_number]
  rw [sign_single hx, hz] at ho
  rw [ho, cmp_lt, cmp_eq] at h
  simp only [Bool.or_eq_false_iff, decide_eq_false_iff_not, Bool.false_eq_true, if_false] at h
  by_cases h31 : 2147483648 ≤ x
  · exfalso
    rw [if_pos (decide_eq_true h31)] at h
    omega
  · refine ⟨?_, by omega⟩
    rcases Nat.eq_zero_or_pos x with h3 | h3
    · exfalso
      subst h3
      rw [if_neg (by simp)] at h
      have h4 : un Ieee.single (0 % Ieee.single.signWeight) = 0 := hz
      rw [h4] at h
      exact h.2 rfl
    · exact h3
theorem rung_lo : un Ieee.double 3936146074321813504 = 2 ^ 925 := by
  have s1 : sig Ieee.double 3936146074321813504 = 2 ^ 52 := rfl
  have s2 : exq Ieee.double 3936146074321813504 = 873 := rfl
  unfold un; rw [s1, s2]; exact pow_sum 52 873 925 rfl
theorem rung_hi : un Ieee.double 5183643171103440896 = 2 ^ 1202 := by
  have s1 : sig Ieee.double 5183643171103440896 = 2 ^ 52 := rfl
  have s2 : exq Ieee.double 5183643171103440896 = 1150 := rfl
  unfold un; rw [s1, s2]; exact pow_sum 52 1150 1202 rfl

/-- a positive finite float32 as a double -/
theorem widen_pos {x : Nat} (hx : x < 4294967296) (hf : isFin (fv .f32 x) = true) (hp : 0 < x ∧ x < 2147483648) : ∃ r, 3936146074321813504 ≤ r ∧ r ≤ 5183643171103440896 ∧ ∀ w, (convert 34 39 (.float .f32 x)).run Try.prog w = .ok (.float .f64 (Ieee.double.word false r)) w := by
  obtain ⟨y, hF, hy, hB, hc, hconv⟩ := widen_one hx hf
  rw [isFin_iff hx] at hf
  simp only [Bool.and_eq_true, Bool.not_eq_true', decide_eq_true_eq] at hf
  obtain ⟨r', h1, h2, h3, _⟩ := widen_word hx hf.1
  rw [decide_eq_false (by omega), hc] at h2
  have e2 := Option.some.inj h2
  rw [e2] at hB hconv
  obtain ⟨h4, h5⟩ := h3 hf.2
  have e : Ieee.single.signWeight = 2147483648 := rfl
  have hx0 : x % Ieee.single.signWeight = x := by rw [e]; exact Nat.mod_eq_of_lt hp.2
  have hu1 : 1 ≤ un Ieee.single (x % Ieee.single.signWeight) := by
    rw [hx0]
    have := un_lt Ieee.single hp.1
    omega
  refine ⟨r', ?_, ?_, hconv⟩
  · refine (un_le_iff Ieee.double _ _).1 ?_
    rw [rung_lo, h5]
    exact Nat.le_mul_of_pos_left _ hu1
  · have hu := un_bd h4 (by decide) hB
    refine (un_le_iff Ieee.double _ _).1 ?_
    have e3 : ((128 : Int) + 1074).toNat = 1202 := rfl
    rw [e3] at hu
    rw [rung_hi]
    exact hu

end Go.Proofs.Ytiabbafmjgiobaa
