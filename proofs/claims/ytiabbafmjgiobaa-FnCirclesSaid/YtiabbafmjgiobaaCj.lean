/-
Products, powers, gaps and angles at given numbers: what the functions return.
-/
import Derived.Test.YtiabbafmjgiobaaCh
import Derived.Test.YtiabbafmjgiobaaWo
import Derived.Test.YtiabbafmjgiobaaWu
import Derived.Test.YtiabbafmjgiobaaDa
set_option linter.unusedVariables false
set_option linter.unusedSimpArgs false
namespace Go.Proofs.Ytiabbafmjgiobaa
open Fl Go Go.RowKit

def UpTo (x A : Nat) : Prop := ∀ w, (convert 34 39 (.float .f32 x)).run Try.prog w = .ok (.float .f64 A) w
def DownTo (A x : Nat) : Prop := ∀ w, (convert 39 34 (.float .f64 A)).run Try.prog w = .ok (.float .f32 x) w
theorem upto_of {x A : Nat} (h : floatToFloatBits .f32 x .f64 = some A) : UpTo x A := fun w => run_convert_float_float w _ _ _ _ x A (by rw [Try.underlying34]; rfl) Try.underlying39 h
theorem downto_of {A x : Nat} (h : floatToFloatBits .f64 A .f32 = some x) : DownTo A x := fun w => run_convert_float_float w _ _ _ _ A x (by rw [Try.underlying39]; rfl) Try.underlying34 h

theorem c_parts (x1 x2 A B : Nat) (h1 : UpTo x1 A) (h2 : UpTo x2 B) (w : World) : Calls Try.prog 41 #[.complex .f32 x1 x2] w fun e w' => e = .returned (.tuple #[.float .f64 A, .float .f64 B]) ∧ w = w' := by
  unfold UpTo at h1 h2
  go_enter Try.func41, Try.ntmps41
  go_wp2_with fail
  go_ret2
  exact ⟨rfl, rfl⟩
theorem c_times (a b c d : Nat) (ha : Fnt a) (hb : Fnt b) (hc : Fnt c) (hd : Fnt d) (h1 : Fnt (fmul a c)) (h2 : Fnt (fmul b d)) (h3 : Fnt (fmul a d)) (h4 : Fnt (fmul b c)) (w : World) :
    Calls Try.prog 42 #[.float .f64 a, .float .f64 b, .float .f64 c, .float .f64 d] w fun e w' => e = .returned (.tuple #[.float .f64 (fsub (fmul a c) (fmul b d)), .float .f64 (fadd (fmul a d) (fmul b c))]) ∧ w = w' := by
  go_enter Try.func42, Try.ntmps42
  go_wp2_with fail
  go_ret2
  exact ⟨rfl, rfl⟩
theorem c_power (x1 x2 A B : Nat) (h1 : UpTo x1 A) (h2 : UpTo x2 B) (ha : Fnt A) (hb : Fnt B) (haa : Fnt (fmul A A)) (hbb : Fnt (fmul B B)) (w : World) :
    Calls Try.prog 33 #[.complex .f32 x1 x2] w fun e w' => e = .returned (.float .f64 (fadd (fmul A A) (fmul B B))) ∧ w = w' := by
  have H := hide_ (fun W => c_parts x1 x2 A B h1 h2 W)
  clear h1 h2
  go_enter Try.func33, Try.ntmps33
  go_wp2_with fail
  go_at_call 41
  refine Calls.mono (H.out _) ?_
  rintro e w1 ⟨rfl, rfl⟩
  go_wp2_with fail
  go_ret
  exact ⟨rfl, rfl⟩
theorem c_mulG (x1 x2 y1 y2 A B C D u v : Nat) (uA : UpTo x1 A) (uB : UpTo x2 B) (uC : UpTo y1 C) (uD : UpTo y2 D) (fA : Fnt A) (fB : Fnt B) (fC : Fnt C) (fD : Fnt D) (m1 : Fnt (fmul A C)) (m2 : Fnt (fmul B D)) (m3 : Fnt (fmul A D)) (m4 : Fnt (fmul B C))
    (du : DownTo (fsub (fmul A C) (fmul B D)) u) (dv : DownTo (fadd (fmul A D) (fmul B C)) v) (w : World) :
    Calls Try.prog 21 #[.complex .f32 x1 x2, .complex .f32 y1 y2] w fun e w' => e = .returned (.complex .f32 u v) ∧ w = w' := by
  have H1 := hide_ (fun W => c_parts x1 x2 A B uA uB W)
  have H2 := hide_ (fun W => c_parts y1 y2 C D uC uD W)
  have H3 := hide_ (fun W => c_times A B C D fA fB fC fD m1 m2 m3 m4 W)
  generalize fsub (fmul A C) (fmul B D) = U at H3 du
  generalize fadd (fmul A D) (fmul B C) = V at H3 dv
  unfold DownTo at du dv
  clear fA fB fC fD uA uB uC uD m1 m2 m3 m4
  go_enter Try.func21, Try.ntmps21
  go_wp2_with fail
  go_at_call 41
  refine Calls.mono (H1.out _) ?_
  rintro e w1 ⟨rfl, rfl⟩
  go_wp2_with fail
  go_at_call 41
  refine Calls.mono (H2.out _) ?_
  rintro e w1 ⟨rfl, rfl⟩
  go_wp2_with fail
  go_at_call 42
  refine Calls.mono (H3.out _) ?_
  rintro e w1 ⟨rfl, rfl⟩
  go_wp2_with fail
  go_ret
  exact ⟨rfl, rfl⟩
theorem c_powG (x1 x2 A B u : Nat) (uA : UpTo x1 A) (uB : UpTo x2 B) (fA : Fnt A) (fB : Fnt B) (m1 : Fnt (fmul A A)) (m2 : Fnt (fmul B B)) (du : DownTo (fadd (fmul A A) (fmul B B)) u) (w : World) :
    Calls Try.prog 19 #[.complex .f32 x1 x2] w fun e w' => e = .returned (.float .f32 u) ∧ w = w' := by
  have H1 := hide_ (fun W => c_power x1 x2 A B uA uB fA fB m1 m2 W)
  generalize fadd (fmul A A) (fmul B B) = U at H1 du
  unfold DownTo at du
  clear fA fB uA uB m1 m2
  go_enter Try.func19, Try.ntmps19
  go_wp2_with fail
  go_at_call 33
  refine Calls.mono (H1.out _) ?_
  rintro e w1 ⟨rfl, rfl⟩
  go_wp2_with fail
  go_ret
  exact ⟨rfl, rfl⟩
theorem c_gap (a b : Nat) (ha : Fnt a) (hb : Fnt b) (w : World) : Calls Try.prog 18 #[.float .f64 a, .float .f64 b] w fun e w' => e = .returned (.float .f64 (gapN a b)) ∧ w = w' := by
  cases hc : (FloatKind.f64.format.order a b == some .lt)
  · have HG : Hid (gapN a b = fsub a b) := by
      show gapN a b = _
      unfold gapN; rw [hc]; rfl
    go_enter Try.func18, Try.ntmps18
    go_wp2_with fail
    go_ret
    rw [HG.out]
    exact ⟨rfl, rfl⟩
  · have HG : Hid (gapN a b = fsub b a) := by
      show gapN a b = _
      unfold gapN; rw [hc]; rfl
    go_enter Try.func18, Try.ntmps18
    go_wp2_with fail
    go_ret
    rw [HG.out]
    exact ⟨rfl, rfl⟩
theorem c_near (a1 a2 b1 b2 A B C D most : Nat) (uA : UpTo a1 A) (uB : UpTo a2 B) (uC : UpTo b1 C) (uD : UpTo b2 D) (fA : Fnt A) (fB : Fnt B) (fC : Fnt C) (fD : Fnt D)
    (h1 : ((FloatKind.f64.format.order (gapN A C) most == some .lt) || (FloatKind.f64.format.order (gapN A C) most == some .eq)) = true)
    (h2 : ((FloatKind.f64.format.order (gapN B D) most == some .lt) || (FloatKind.f64.format.order (gapN B D) most == some .eq)) = true) (w : World) :
    Calls Try.prog 20 #[.complex .f32 a1 a2, .complex .f32 b1 b2, .float .f64 most] w fun e w' => e = .returned (.bool true) ∧ w = w' := by
  have G1 := hide_ (fun W => c_gap A C fA fC W)
  have G2 := hide_ (fun W => c_gap B D fB fD W)
  unfold UpTo at *
  generalize gapN A C = g1 at *
  generalize gapN B D = g2 at *
  clear fA fB fC fD
  go_enter Try.func20, Try.ntmps20
  go_wp2_with fail
  go_at_call 18
  refine Calls.mono (G1.out _) ?_
  rintro e w1 ⟨rfl, rfl⟩
  go_wp2_with fail
  go_at_call 18
  refine Calls.mono (G2.out _) ?_
  rintro e w1 ⟨rfl, rfl⟩
  go_wp2_with fail
  go_ret
  exact ⟨rfl, rfl⟩

theorem wid_eq {x z : Nat} (hx : x < 4294967296) (hf : isFin (fv .f32 x) = true) (hc : ∀ w, (convert 34 39 (.float .f32 x)).run Try.prog w = .ok (.float .f64 z) w) : wid x = z := by
  obtain ⟨y, _, _, _, hy, _⟩ := widen_one hx hf
  rw [isFin_iff hx] at hf
  simp only [Bool.and_eq_true, Bool.not_eq_true', decide_eq_true_eq] at hf
  rw [fv_some.2 ⟨hf.1, rfl⟩] at hy
  have hy' : floatToFloatBits .f32 x .f64 = some y := hy
  have h1 := upto_of hy' default
  rw [hc default] at h1
  injection h1 with e2
  injection e2 with e3 e4
  unfold wid
  rw [hy', ← e4]; rfl
/-- the program's angle at finite numbers that are not both zero, as a value -/
theorem c_angV (y x v : Nat) (hy : y < 4294967296) (hx : x < 4294967296) (hfy : isFin (fv .f32 y) = true) (hfx : isFin (fv .f32 x) = true) (hnz : (FloatKind.f32.format.order x 0 == some .eq) = false ∨ (FloatKind.f32.format.order x 0 == some .eq) = true ∧ (FloatKind.f32.format.order y 0 == some .eq) = false)
    (hval : cvf .f64 .f32 (some (angX y x)) = some v) : ∀ w, Calls Try.prog 40 #[.float .f32 y, .float .f32 x] w fun e w' => e = .returned (.float .f32 v) ∧ ∃ n, w' = w.drewN n := by
  obtain ⟨sy, ry, hry, hcy, ly, ey⟩ := widen_all hy hfy
  obtain ⟨sx, rx, hrx, hcx, lx, ex⟩ := widen_all hx hfx
  have wy := wid_eq hy hfy hcy
  have wx := wid_eq hx hfx hcx
  have ay : Ieee.double.word sy ry % 9223372036854775808 = ry := word_abs sy (Nat.le_of_lt hry)
  have ax : Ieee.double.word sx rx % 9223372036854775808 = rx := word_abs sx (Nat.le_of_lt hrx)
  have Fy := fin_word sy hry
  have Fx := fin_word sx hrx
  have Fa : Fnt ry := fin_word false hry
  have Fb : Fnt rx := fin_word false hrx
  have h64y := word_lt64 sy (Nat.le_of_lt hry)
  have h64x := word_lt64 sx (Nat.le_of_lt hrx)
  have hgt : (FloatKind.f64.format.order ry rx == some .gt) = decide (rx < ry) := by
    have h := gt_word false hry hrx
    have e : Ieee.double.word false ry = ry := rfl
    rw [e] at h
    rw [h]
    congr 1
    have hs : sun false ry = (un Ieee.double ry : Int) := rfl
    rw [hs]
    refine propext ⟨fun h1 => ?_, fun h1 => ?_⟩
    · refine Nat.lt_of_not_le fun h2 => ?_
      have := (un_le_iff Ieee.double _ _).2 h2
      omega
    · have := un_lt Ieee.double h1
      omega
  have hnz0 : 0 < rx ∨ 0 < ry := by
    rcases Nat.eq_zero_or_pos rx with h | h
    · rcases Nat.eq_zero_or_pos ry with h' | h'
      · exfalso
        subst h; subst h'
        rw [zero_eq] at ex ey
        rcases hnz with h | ⟨_, h⟩
        · rw [← ex] at h; cases h
        · rw [← ey] at h; cases h
      · exact .inr h'
    · exact .inl h
  have eX : angX y x = ang3 (FloatKind.f32.format.order y 0 == some .lt) (ang2 (FloatKind.f32.format.order x 0 == some .lt) (ang1 (decide (rx < ry)) (ang0 (halfT (if rx < ry then fdiv rx ry else fdiv ry rx) 3)))) := by
    unfold angX angT
    rw [wy, wx, ay, ax]
  rw [eX] at hval
  clear eX wy wx
  by_cases ho : rx < ry
  · rw [decide_eq_true ho] at hgt
    rw [decide_eq_true ho, if_pos ho] at hval
    obtain ⟨hb, hnzq⟩ := quot_one (Nat.le_of_lt ho) (by omega) hry
    obtain ⟨q, hq⟩ := quot_any hry hrx (.inl (by omega))
    have hT := halves hb
    have hL := ang_ok true (FloatKind.f32.format.order x 0 == some .lt) (FloatKind.f32.format.order y 0 == some .lt) (half_bd hb 3)
    obtain ⟨v', hv, hN⟩ := narrow_one hL.a3
    have hq' : ∀ w, (binOp .quo 39 (.float .f64 ry) (.float .f64 rx)).run Try.prog w = .ok (.float .f64 q) w := fun w => run_float_arith w _ _ _ _ _ _ hq
    have hvv : v' = v := by
      have h1 : fv .f32 v' = some v := hv.1.trans hval
      exact (fv_some.1 h1).2
    subst hvv
    intro w
    rcases hnz with hz | ⟨hz, hz'⟩
    · exact c_angle10 y x _ _ _ _ _ v' hfy hfx hcy hcx h64y h64x hz (by rw [ay, ax]; exact hgt) (by rw [ay]; exact Fa) (by rw [ax]; exact Fb) (by rw [ay]; exact hnzq) q (by rw [ay, ax]; exact hq') (by rw [ay, ax]; rfl) hT hL rfl rfl hN w
    · exact c_angle11 y x _ _ _ _ _ v' hfy hfx hcy hcx h64y h64x hz hz' (by rw [ay, ax]; exact hgt) (by rw [ay]; exact Fa) (by rw [ax]; exact Fb) (by rw [ay]; exact hnzq) q (by rw [ay, ax]; exact hq') (by rw [ay, ax]; rfl) hT hL rfl rfl hN w
  · rw [decide_eq_false ho] at hgt
    rw [decide_eq_false ho, if_neg ho] at hval
    obtain ⟨hb, hnzq⟩ := quot_one (Nat.le_of_not_lt ho) (by omega) hrx
    have hq : floatBits .quo .f64 ry rx = some (fdiv ry rx) := div_ok Fa hnzq
    have hT := halves hb
    have hL := ang_ok false (FloatKind.f32.format.order x 0 == some .lt) (FloatKind.f32.format.order y 0 == some .lt) (half_bd hb 3)
    obtain ⟨v', hv, hN⟩ := narrow_one hL.a3
    have hq' : ∀ w, (binOp .quo 39 (.float .f64 ry) (.float .f64 rx)).run Try.prog w = .ok (.float .f64 (fdiv ry rx)) w := fun w => run_float_arith w _ _ _ _ _ _ hq
    have hvv : v' = v := by
      have h1 : fv .f32 v' = some v := hv.1.trans hval
      exact (fv_some.1 h1).2
    subst hvv
    intro w
    rcases hnz with hz | ⟨hz, hz'⟩
    · exact c_angle00 y x _ _ (halfT (fdiv (Ieee.double.word false ry) (Ieee.double.word false rx))) _ _ v' hfy hfx hcy hcx h64y h64x hz (by rw [ay, ax]; exact hgt) (by rw [ay]; exact Fa) (by rw [ax]; exact Fb) (by rw [ax]; exact hnzq) (fdiv ry rx) (by rw [ay, ax]; exact hq') rfl hT hL rfl rfl hN w
    · exact c_angle01 y x _ _ (halfT (fdiv (Ieee.double.word false ry) (Ieee.double.word false rx))) _ _ v' hfy hfx hcy hcx h64y h64x hz hz' (by rw [ay, ax]; exact hgt) (by rw [ay]; exact Fa) (by rw [ax]; exact Fb) (by rw [ax]; exact hnzq) (fdiv ry rx) (by rw [ay, ax]; exact hq') rfl hT hL rfl rfl hN w
theorem c_angleOfV (y x v : Nat) (h : ∀ w, Calls Try.prog 40 #[.float .f32 y, .float .f32 x] w fun e w' => e = .returned (.float .f32 v) ∧ ∃ n, w' = w.drewN n) (w : World) :
    Calls Try.prog 17 #[.complex .f32 x y] w fun e w' => e = .returned (.float .f32 v) ∧ ∃ n, w' = w.drewN n := by
  have H := hide_ h
  clear h
  go_enter Try.func17, Try.ntmps17
  go_wp2_with fail
  go_at_call 40
  refine Calls.mono (H.out _) ?_
  rintro e w1 ⟨rfl, n, rfl⟩
  go_wp2_with fail
  go_ret
  exact ⟨rfl, n, rfl⟩

end Go.Proofs.Ytiabbafmjgiobaa
