/-
The law on AngleTurns, over the contracts of the angles.
-/
import Derived.Test.YtgkecanodapmgaaWn
set_option linter.unusedVariables false
set_option linter.unusedSimpArgs false
namespace Go.Proofs.Ytgkecanodapmgaa
open Fl Go.RowKit

/-- a finite float32 as a double: its rung, its place against zero -/
theorem widen_all {x : Nat} (hx : x < 4294967296) (hf : isFin (fv .f32 x) = true) : ∃ s r, r < Ieee.double.infRung ∧ (∀ w, (convert 22 26 (.float .f32 x)).run Try.prog w = .ok (.float .f64 (Ieee.double.word s r)) w) ∧
    (FloatKind.f64.format.order (Ieee.double.word s r) 0 == some .lt) = (FloatKind.f32.format.order x 0 == some .lt) ∧ (FloatKind.f64.format.order (Ieee.double.word s r) 0 == some .eq) = (FloatKind.f32.format.order x 0 == some .eq) := by
  obtain ⟨y, hF, hy, hB, hc, hconv⟩ := widen_one hx hf
  rw [isFin_iff hx] at hf
  simp only [Bool.and_eq_true, Bool.not_eq_true', decide_eq_true_eq] at hf
  obtain ⟨r', h1, h2, h3, _⟩ := widen_word hx hf.1
  rw [hc] at h2
  have e2 := Option.some.inj h2
  rw [e2] at hconv
  obtain ⟨h4, h5⟩ := h3 hf.2
  have h6 := order_zero hx hf.2 h4 h5
  exact ⟨_, r', h4, hconv, h6.1, h6.2⟩

theorem c_angleWide_nan1 (y x : Nat) (h : opf .sub .f64 (fv .f64 y) (fv .f64 y) = none) (w : World) : Calls Try.prog 68 #[.float .f64 y, .float .f64 x] w (RF .f64 none w) := by
  have key : ∀ r, RV .f64 (opf .sub .f64 (fv .f64 y) (fv .f64 y)) r → (FloatKind.f64.format.order r 0 != some .eq) = true := by
    intro r hr
    rw [h] at hr
    unfold bne
    rw [order_fv, hr.1]; rfl
  have KEY : Hid _ := key
  clear key h
  go_enter Try.func68, Try.ntmps68
  go_wp2_with (first | ((with_reducible refine upon_fbin ?_ ?_); exact rfl; intro r n hr; have hk := KEY.out r hr) | (go_at_call 46; refine (c_nan _).mono ?_; rintro e w' ⟨rfl, rfl⟩))
  go_ret
  exact ⟨_, ⟨fv_nan, by decide⟩, rfl, _, rfl⟩
theorem c_angleWide_nan2 (y x : Nat) (Fy : Fnt y) (h : opf .sub .f64 (fv .f64 x) (fv .f64 x) = none) (w : World) : Calls Try.prog 68 #[.float .f64 y, .float .f64 x] w (RF .f64 none w) := by
  have key : ∀ r, RV .f64 (opf .sub .f64 (fv .f64 x) (fv .f64 x)) r → (FloatKind.f64.format.order r 0 != some .eq) = true := by
    intro r hr
    rw [h] at hr
    unfold bne
    rw [order_fv, hr.1]; rfl
  have KEY : Hid _ := key
  have sy := sub_self Fy
  have h00 : (FloatKind.f64.format.order 0 0 != some .eq) = false := by decide
  clear key h
  go_enter Try.func68, Try.ntmps68
  go_wp2_with (first | ((with_reducible refine upon_fbin ?_ ?_); exact rfl; intro r n hr; have hk := KEY.out r hr) | (go_at_call 46; refine (c_nan _).mono ?_; rintro e w' ⟨rfl, rfl⟩))
  go_ret
  exact ⟨_, ⟨fv_nan, by decide⟩, rfl, _, rfl⟩
theorem c_angleWide_zero (y x : Nat) (Fy : Fnt y) (Fx : Fnt x) (hz : (FloatKind.f64.format.order x 0 == some .eq) = true) (hz' : (FloatKind.f64.format.order y 0 == some .eq) = true) (w : World) : Calls Try.prog 68 #[.float .f64 y, .float .f64 x] w fun e w' => e = .returned (.float .f64 0) ∧ w = w' := by
  have sy := sub_self Fy
  have sx := sub_self Fx
  have h00 : (FloatKind.f64.format.order 0 0 != some .eq) = false := by decide
  go_enter Try.func68, Try.ntmps68
  go_wp2_with fail
  go_ret
  exact ⟨rfl, rfl⟩

theorem c_l01Angle_nan1 (y x : Nat) (hy : y < 4294967296) (hx : x < 4294967296) (hf : isFin (fv .f32 y) = false) (w : World) : Calls Try.prog 58 #[.float .f32 y, .float .f32 x] w (RF .f32 none w) := by
  have hn := notFin_cases hy hf
  clear hf
  go_enter Try.func58, Try.ntmps58
  go_wp2_with (first | ((with_reducible refine upon_widen Try.underlying22 Try.underlying26 hy ?_); intro y1 n hy1) | ((with_reducible refine upon_widen Try.underlying22 Try.underlying26 hx ?_); intro x1 m hx1) | (go_at_call 68; refine (c_angleWide_nan1 _ _ (widen_notfin hy hn hy1) _).mono ?_; rintro e w' ⟨r, hr, rfl, k, rfl⟩) | (go_at_call 62; refine (c_l01Narrow _ (rv64 hr) (rf_none hr).1 _).mono ?_; rintro e w' ⟨q, hq, rfl, k', rfl⟩))
  go_ret
  exact ⟨q, ⟨hq.1.trans (rf_none hr).2, hq.2⟩, rfl, _, rfl⟩
theorem c_l01Angle_nan2 (y x y' : Nat) (hx : x < 4294967296) (hf : isFin (fv .f32 x) = false) (Fy : Fnt y') (hcy : ∀ w, (convert 22 26 (.float .f32 y)).run Try.prog w = .ok (.float .f64 y') w) (w : World) : Calls Try.prog 58 #[.float .f32 y, .float .f32 x] w (RF .f32 none w) := by
  have hn := notFin_cases hx hf
  clear hf
  go_enter Try.func58, Try.ntmps58
  go_wp2_with (first | ((with_reducible refine upon_widen Try.underlying22 Try.underlying26 hx ?_); intro x1 m hx1) | (go_at_call 68; refine (c_angleWide_nan2 _ _ Fy (widen_notfin hx hn hx1) _).mono ?_; rintro e w' ⟨r, hr, rfl, k, rfl⟩) | (go_at_call 62; refine (c_l01Narrow _ (rv64 hr) (rf_none hr).1 _).mono ?_; rintro e w' ⟨q, hq, rfl, k', rfl⟩))
  go_ret
  exact ⟨q, ⟨hq.1.trans (rf_none hr).2, hq.2⟩, rfl, _, rfl⟩
theorem c_l01Angle_fin (y x y' x' v : Nat) (hcy : ∀ w, (convert 22 26 (.float .f32 y)).run Try.prog w = .ok (.float .f64 y') w) (hcx : ∀ w, (convert 22 26 (.float .f32 x)).run Try.prog w = .ok (.float .f64 x') w)
    (hs : ∀ w, Calls Try.prog 68 #[.float .f64 y', .float .f64 x'] w fun e w' => e = .returned (.float .f64 v) ∧ w = w') (hv : Bd v 127) (w : World) : Calls Try.prog 58 #[.float .f32 y, .float .f32 x] w (RF .f32 (cvf .f64 .f32 (some v)) w) := by
  have HS : Hid _ := hs
  have hN := c_l01Narrow v hv.1 (fits_bd hv)
  rw [hv.fin.fv] at hN
  have HN : Hid _ := hN
  clear hs hN hv
  go_enter Try.func58, Try.ntmps58
  go_wp2_with (first | (go_at_call 68; refine (HS.out _).mono ?_; rintro e w' ⟨rfl, rfl⟩) | (go_at_call 62; refine (HN.out _).mono ?_; rintro e w' ⟨q, hq, rfl, k, rfl⟩))
  go_ret
  exact ⟨q, hq, rfl, _, rfl⟩

theorem c_implAngle_nan (y x : Nat) (hf : isFin (fv .f32 x) = false ∨ isFin (fv .f32 x) = true ∧ isFin (fv .f32 y) = false) (w : World) : Calls Try.prog 33 #[.float .f32 y, .float .f32 x] w (RF .f32 none w) := by
  have IY : Hid _ := c_implIsFinite y
  have IX : Hid _ := c_implIsFinite x
  rcases hf with hf | ⟨hf, hf'⟩
  · have IXf : Hid _ := hf
    clear hf IY
    go_enter Try.func33, Try.ntmps33
    go_wp2_with (first | (go_at_call 45; (with_reducible refine (IX.out _).mono ?_); rw [IXf.out]; rintro e w' ⟨rfl, n', rfl⟩) | (go_at_call 46; refine (c_nan _).mono ?_; rintro e w' ⟨rfl, rfl⟩) | ((with_reducible refine upon_narrow Try.underlying26 Try.underlying22 (by decide) (by rw [fv_nan]; exact fits_none) ?_); intro q m hq))
    go_ret
    exact ⟨q, ⟨hq.1.trans (by rw [fv_nan]; rfl), hq.2⟩, rfl, _, rfl⟩
  · have IXf : Hid _ := hf
    have IYf : Hid _ := hf'
    clear hf hf'
    go_enter Try.func33, Try.ntmps33
    go_wp2_with (first | (go_at_call 45; first | ((with_reducible refine (IX.out _).mono ?_); rw [IXf.out]; rintro e w' ⟨rfl, n', rfl⟩) | ((with_reducible refine (IY.out _).mono ?_); rw [IYf.out]; rintro e w' ⟨rfl, n, rfl⟩)) | (go_at_call 46; refine (c_nan _).mono ?_; rintro e w' ⟨rfl, rfl⟩) | ((with_reducible refine upon_narrow Try.underlying26 Try.underlying22 (by decide) (by rw [fv_nan]; exact fits_none) ?_); intro q m hq))
    go_ret
    exact ⟨q, ⟨hq.1.trans (by rw [fv_nan]; rfl), hq.2⟩, rfl, _, rfl⟩
theorem c_implAngle_zero (y x : Nat) (hfy : isFin (fv .f32 y) = true) (hfx : isFin (fv .f32 x) = true) (hz : (FloatKind.f32.format.order x 0 == some .eq) = true) (hz' : (FloatKind.f32.format.order y 0 == some .eq) = true) (w : World) : Calls Try.prog 33 #[.float .f32 y, .float .f32 x] w (RF .f32 (some 0) w) := by
  have IY : Hid _ := c_implIsFinite y
  have IX : Hid _ := c_implIsFinite x
  have IXf : Hid _ := hfx
  have IYf : Hid _ := hfy
  clear hfx hfy
  go_enter Try.func33, Try.ntmps33
  go_wp2_with (go_at_call 45; first | ((with_reducible refine (IX.out _).mono ?_); rw [IXf.out]; rintro e w' ⟨rfl, n', rfl⟩) | ((with_reducible refine (IY.out _).mono ?_); rw [IYf.out]; rintro e w' ⟨rfl, n, rfl⟩))
  go_ret
  exact ⟨0, ⟨rfl, by decide⟩, rfl, _, rfl⟩

theorem zero_eq (s : Bool) : (FloatKind.f64.format.order (Ieee.double.word s 0) 0 == some .eq) = true := by cases s <;> decide

/-- both angles at finite numbers that are not both zero -/
theorem angle_fin (y x : Nat) (hy : y < 4294967296) (hx : x < 4294967296) (hfy : isFin (fv .f32 y) = true) (hfx : isFin (fv .f32 x) = true) (hnz : (FloatKind.f32.format.order x 0 == some .eq) = false ∨ (FloatKind.f32.format.order x 0 == some .eq) = true ∧ (FloatKind.f32.format.order y 0 == some .eq) = false) :
    ∃ v, (∀ w, Calls Try.prog 58 #[.float .f32 y, .float .f32 x] w (RF .f32 v w)) ∧ (∀ w, Calls Try.prog 33 #[.float .f32 y, .float .f32 x] w (RF .f32 v w)) := by
  obtain ⟨sy, ry, hry, hcy, ly, ey⟩ := widen_all hy hfy
  obtain ⟨sx, rx, hrx, hcx, lx, ex⟩ := widen_all hx hfx
  have ay : Ieee.double.word sy ry % 9223372036854775808 = ry := word_abs sy (Nat.le_of_lt hry)
  have ax : Ieee.double.word sx rx % 9223372036854775808 = rx := word_abs sx (Nat.le_of_lt hrx)
  have Fy := fin_word sy hry
  have Fx := fin_word sx hrx
  have Fa : Fnt ry := fin_word false hry
  have Fb : Fnt rx := fin_word false hrx
  have h64y := word_lt64 sy (Nat.le_of_lt hry)
  have h64x := word_lt64 sx (Nat.le_of_lt hrx)
  have hgt : (FloatKind.f64.format.order ry rx == some .gt) = decide (rx < ry) := by
    have h := gt_word false hry hrx
    have e : Ieee.double.word false ry = ry := rfl
    rw [e] at h
    rw [h]
    congr 1
    have hs : sun false ry = (un Ieee.double ry : Int) := rfl
    rw [hs]
    refine propext ⟨fun h1 => ?_, fun h1 => ?_⟩
    · refine Nat.lt_of_not_le fun h2 => ?_
      have := (un_le_iff Ieee.double _ _).2 h2
      omega
    · have := un_lt Ieee.double h1
      omega
  have hnz0 : 0 < rx ∨ 0 < ry := by
    rcases Nat.eq_zero_or_pos rx with h | h
    · rcases Nat.eq_zero_or_pos ry with h' | h'
      · exfalso
        subst h; subst h'
        rw [zero_eq] at ex ey
        rcases hnz with h | ⟨_, h⟩
        · rw [← ex] at h; cases h
        · rw [← ey] at h; cases h
      · exact .inr h'
    · exact .inl h
  by_cases ho : rx < ry
  · rw [decide_eq_true ho] at hgt
    obtain ⟨hb, hnzq⟩ := quot_one (Nat.le_of_lt ho) (by omega) hry
    obtain ⟨q, hq⟩ := quot_any hry hrx (.inl (by omega))
    have hT := halves hb
    have hL := ang_ok true (FloatKind.f32.format.order x 0 == some .lt) (FloatKind.f32.format.order y 0 == some .lt) (half_bd hb 3)
    obtain ⟨v, hv, hN⟩ := narrow_one hL.a3
    have hq' : ∀ w, (binOp .quo 26 (.float .f64 ry) (.float .f64 rx)).run Try.prog w = .ok (.float .f64 q) w := fun w => run_float_arith w _ _ _ _ _ _ hq
    refine ⟨_, fun w => c_l01Angle_fin y x _ _ _ hcy hcx (fun w => ?_) hL.a3 w, fun w => (?_ : Calls _ _ _ w fun e w' => e = .returned (.float .f32 v) ∧ ∃ n, w' = w.drewN n).mono fun e w' h => ⟨v, hv, h.1, h.2⟩⟩
    · rcases hnz with hz | ⟨hz, hz'⟩
      · exact c_angleWide10 _ _ _ _ _ h64y h64x Fy Fx (sub_self Fy) (sub_self Fx) (ex.trans hz) (by rw [ay, ax]; exact hgt) (by rw [ay]; exact Fa) (by rw [ax]; exact Fb) (by rw [ay]; exact hnzq) (by rw [ay, ax]; rfl) hT hL lx ly w
      · exact c_angleWide11 _ _ _ _ _ h64y h64x Fy Fx (sub_self Fy) (sub_self Fx) (ex.trans hz) (ey.trans hz') (by rw [ay, ax]; exact hgt) (by rw [ay]; exact Fa) (by rw [ax]; exact Fb) (by rw [ay]; exact hnzq) (by rw [ay, ax]; rfl) hT hL lx ly w
    · rcases hnz with hz | ⟨hz, hz'⟩
      · exact c_angle10 y x _ _ _ _ _ v hfy hfx hcy hcx h64y h64x hz (by rw [ay, ax]; exact hgt) (by rw [ay]; exact Fa) (by rw [ax]; exact Fb) (by rw [ay]; exact hnzq) q (by rw [ay, ax]; exact hq') (by rw [ay, ax]; rfl) hT hL rfl rfl hN w
      · exact c_angle11 y x _ _ _ _ _ v hfy hfx hcy hcx h64y h64x hz hz' (by rw [ay, ax]; exact hgt) (by rw [ay]; exact Fa) (by rw [ax]; exact Fb) (by rw [ay]; exact hnzq) q (by rw [ay, ax]; exact hq') (by rw [ay, ax]; rfl) hT hL rfl rfl hN w
  · rw [decide_eq_false ho] at hgt
    obtain ⟨hb, hnzq⟩ := quot_one (Nat.le_of_not_lt ho) (by omega) hrx
    have hq : floatBits .quo .f64 ry rx = some (fdiv ry rx) := div_ok Fa hnzq
    have hT := halves hb
    have hL := ang_ok false (FloatKind.f32.format.order x 0 == some .lt) (FloatKind.f32.format.order y 0 == some .lt) (half_bd hb 3)
    obtain ⟨v, hv, hN⟩ := narrow_one hL.a3
    have hq' : ∀ w, (binOp .quo 26 (.float .f64 ry) (.float .f64 rx)).run Try.prog w = .ok (.float .f64 (fdiv ry rx)) w := fun w => run_float_arith w _ _ _ _ _ _ hq
    refine ⟨_, fun w => c_l01Angle_fin y x _ _ _ hcy hcx (fun w => ?_) hL.a3 w, fun w => (?_ : Calls _ _ _ w fun e w' => e = .returned (.float .f32 v) ∧ ∃ n, w' = w.drewN n).mono fun e w' h => ⟨v, hv, h.1, h.2⟩⟩
    · rcases hnz with hz | ⟨hz, hz'⟩
      · exact c_angleWide00 _ _ _ _ _ h64y h64x Fy Fx (sub_self Fy) (sub_self Fx) (ex.trans hz) (by rw [ay, ax]; exact hgt) (by rw [ay]; exact Fa) (by rw [ax]; exact Fb) (by rw [ax]; exact hnzq) (by rw [ay, ax]; rfl) hT hL lx ly w
      · exact c_angleWide01 _ _ _ _ _ h64y h64x Fy Fx (sub_self Fy) (sub_self Fx) (ex.trans hz) (ey.trans hz') (by rw [ay, ax]; exact hgt) (by rw [ay]; exact Fa) (by rw [ax]; exact Fb) (by rw [ax]; exact hnzq) (by rw [ay, ax]; rfl) hT hL lx ly w
    · rcases hnz with hz | ⟨hz, hz'⟩
      · exact c_angle00 y x _ _ (halfT (fdiv (Ieee.double.word false ry) (Ieee.double.word false rx))) _ _ v hfy hfx hcy hcx h64y h64x hz (by rw [ay, ax]; exact hgt) (by rw [ay]; exact Fa) (by rw [ax]; exact Fb) (by rw [ax]; exact hnzq) (fdiv ry rx) (by rw [ay, ax]; exact hq') rfl hT hL rfl rfl hN w
      · exact c_angle01 y x _ _ (halfT (fdiv (Ieee.double.word false ry) (Ieee.double.word false rx))) _ _ v hfy hfx hcy hcx h64y h64x hz hz' (by rw [ay, ax]; exact hgt) (by rw [ay]; exact Fa) (by rw [ax]; exact Fb) (by rw [ax]; exact hnzq) (fdiv ry rx) (by rw [ay, ax]; exact hq') rfl hT hL rfl rfl hN w

theorem angle_both (y x : Nat) (hy : y < 4294967296) (hx : x < 4294967296) :
    ∃ v, (∀ w, Calls Try.prog 58 #[.float .f32 y, .float .f32 x] w (RF .f32 v w)) ∧ (∀ w, Calls Try.prog 33 #[.float .f32 y, .float .f32 x] w (RF .f32 v w)) := by
  cases hfy : isFin (fv .f32 y)
  · refine ⟨none, fun w => c_l01Angle_nan1 y x hy hx hfy w, fun w => c_implAngle_nan y x ?_ w⟩
    cases hfx : isFin (fv .f32 x)
    · exact .inl rfl
    · exact .inr ⟨rfl, hfy⟩
  · cases hfx : isFin (fv .f32 x)
    · obtain ⟨sy, ry, hry, hcy, _, _⟩ := widen_all hy hfy
      exact ⟨none, fun w => c_l01Angle_nan2 y x _ hx hfx (fin_word sy hry) hcy w, fun w => c_implAngle_nan y x (.inl hfx) w⟩
    · cases hz : (FloatKind.f32.format.order x 0 == some .eq)
      · exact angle_fin y x hy hx hfy hfx (.inl hz)
      · cases hz' : (FloatKind.f32.format.order y 0 == some .eq)
        · exact angle_fin y x hy hx hfy hfx (.inr ⟨hz, hz'⟩)
        · obtain ⟨sy, ry, hry, hcy, _, ey⟩ := widen_all hy hfy
          obtain ⟨sx, rx, hrx, hcx, _, ex⟩ := widen_all hx hfx
          have e : cvf .f64 .f32 (some 0) = some 0 := rfl
          refine ⟨some 0, fun w => ?_, fun w => c_implAngle_zero y x hfy hfx hz hz' w⟩
          rw [← e]
          exact c_l01Angle_fin y x _ _ 0 hcy hcx (fun w => c_angleWide_zero _ _ (fin_word sy hry) (fin_word sx hrx) (ex.trans hz) (ey.trans hz') w) (bd_zero.mono (by decide)) w

theorem c_specAngle (y x : Nat) (v : Option Nat) (h : ∀ w, Calls Try.prog 58 #[.float .f32 y, .float .f32 x] w (RF .f32 v w)) (w : World) : Calls Try.prog 32 #[.float .f32 y, .float .f32 x] w (RF .f32 v w) := by
  have HS : Hid _ := h
  clear h
  go_enter Try.func32, Try.ntmps32
  go_wp2_with (go_at_call 58; refine (HS.out _).mono ?_; rintro e w' ⟨q, hq, rfl, k, rfl⟩)
  go_ret
  exact ⟨q, hq, rfl, _, rfl⟩
theorem walk_FnExactAngleTurns (y : Nat) (wy : (Lit.float .f32 y).wf = true) (x : Nat) (wx : (Lit.float .f32 x).wf = true) (w : World) : Calls Try.prog 11 #[.float .f32 y, .float .f32 x] w (Law w) := by
  have hx := wf32 wx
  have hy := wf32 wy
  clear wx wy
  obtain ⟨v, h1, h2⟩ := angle_both y x hy hx
  have H1 : Hid _ := c_specAngle y x v h1
  have H2 : Hid _ := h2
  clear h1 h2
  go_enter Try.func11, Try.ntmps11
  go_wp2_with (first | (go_at_call 32; refine (H1.out _).mono ?_; rintro e w' ⟨q, hq, rfl, n, rfl⟩) | (go_at_call 33; refine (H2.out _).mono ?_; rintro e w' ⟨q', hq', rfl, n, rfl⟩) | ((with_reducible refine upon_widen Try.underlying22 Try.underlying26 (rv32 hq) ?_); intro r n hr) | ((with_reducible refine upon_widen Try.underlying22 Try.underlying26 (rv32 hq') ?_); intro r' n hr') | (go_at_call 14; refine (c_sameFloat _ _ (by rw [hr.1, hr'.1, hq.1, hq'.1]) _).mono ?_; rintro e w' ⟨rfl, n, rfl⟩))
  all_goals go_ret
  all_goals exact ⟨rfl, below_n (Below.refl _ _) _⟩

end Go.Proofs.Ytgkecanodapmgaa
