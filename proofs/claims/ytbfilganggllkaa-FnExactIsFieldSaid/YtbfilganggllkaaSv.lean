/-
Valid sheets: the contracts in both packages.
-/
import Derived.Test.YtbfilganggllkaaSh
import Derived.Test.YtbfilganggllkaaWc
import Derived.Deep.QuietTactic
import Derived.BigQuiet
import Derived.IntWalk
set_option linter.unusedVariables false
set_option linter.unusedSimpArgs false
namespace Go.Proofs.Ytbfilganggllkaa
open Fl Go.RowKit

/-- a call that leaves the world, within a region that reads and draws -/
theorem still {P : Program} {f : FuncId} {args : Array Value} {w : World} {n : Nat} {v : Value} (h : Calls P f args (w.drewN n) fun e w' => e = .returned v ∧ w.drewN n = w') :
    Calls P f args (w.drewN n) fun e w' => e = .returned v ∧ ∃ m, w' = w.drewN m := h.mono fun _ _ h => ⟨h.1, n, h.2.symm⟩
def sidesV (wide high : Int) : Bool := inV wide 3 16 && inV high 3 16
theorem sides_iff {wide high : Int} : sidesV wide high = true ↔ 3 ≤ wide ∧ wide ≤ 16 ∧ 3 ≤ high ∧ high ≤ 16 := by
  unfold sidesV inV
  simp only [Bool.and_eq_true, decide_eq_true_eq]
  omega
theorem mul_bound {a b : Int} (h1 : 3 ≤ a) (h2 : a ≤ 16) (h3 : 3 ≤ b) (h4 : b ≤ 16) : 0 ≤ a * b ∧ a * b ≤ 256 := by
  constructor
  · exact Int.mul_nonneg (by omega) (by omega)
  · exact Int.le_trans (Int.mul_le_mul_of_nonneg_right h2 (by omega)) (by omega)
theorem c_l02Sides (wide high : Int) (w : World) : Calls Try.prog 39 #[.int .i64 wide, .int .i64 high] w fun e w' => e = .returned (.bool (sidesV wide high)) ∧ w = w' := by
  have H1 : Hid _ := c_l00In wide 3 16
  have H2 : Hid _ := c_l00In high 3 16
  unfold sidesV
  cases h1 : inV wide 3 16
  · clear H2
    go_enter Try.func39, Try.ntmps39
    go_wp2_with (go_at_call 50; (with_reducible refine (H1.out _).mono ?_); rw [h1]; rintro e w' ⟨rfl, rfl⟩)
    go_ret
    exact ⟨rfl, rfl⟩
  · cases h2 : inV high 3 16
    · go_enter Try.func39, Try.ntmps39
      go_wp2_with (go_at_call 50; first | ((with_reducible refine (H1.out _).mono ?_); rw [h1]; rintro e w' ⟨rfl, rfl⟩) | ((with_reducible refine (H2.out _).mono ?_); rw [h2]; rintro e w' ⟨rfl, rfl⟩))
      go_ret
      exact ⟨rfl, rfl⟩
    · have h3 : 3 ≤ wide ∧ wide ≤ 16 := by unfold inV at h1; simpa using h1
      have h4 : 3 ≤ high ∧ high ≤ 16 := by unfold inV at h2; simpa using h2
      obtain ⟨a1, a2⟩ := h3
      obtain ⟨a3, a4⟩ := h4
      obtain ⟨m1, m2⟩ := mul_bound a1 a2 a3 a4
      go_enter Try.func39, Try.ntmps39
      go_wp2_with (go_at_call 50; first | ((with_reducible refine (H1.out _).mono ?_); rw [h1]; rintro e w' ⟨rfl, rfl⟩) | ((with_reducible refine (H2.out _).mono ?_); rw [h2]; rintro e w' ⟨rfl, rfl⟩))
      go_ret
      exact ⟨by first | rfl | exact ret_bool (by simpa using m2), rfl⟩

/-- a number from zero to another: not below zero, not above -/
def ge0 (x : Nat) : Bool := (FloatKind.f32.format.order x 0 == some .gt) || (FloatKind.f32.format.order x 0 == some .eq)
def gtm (x m : Nat) : Bool := FloatKind.f32.format.order x m == some .gt
def lem (x m : Nat) : Bool := (FloatKind.f32.format.order x m == some .lt) || (FloatKind.f32.format.order x m == some .eq)
def okV (x m : Nat) : Bool := ge0 x && lem x m
/-- numbers that are no NaNs compare -/
theorem lem_gtm {x m : Nat} (hx : ge0 x = true) (hm : (FloatKind.f32.decode m).isNaN = false) : lem x m = !gtm x m := by
  have hxn : (FloatKind.f32.decode x).isNaN = false := by
    cases hn : (FloatKind.f32.decode x).isNaN with
    | false => rfl
    | true =>
      exfalso
      unfold ge0 at hx
      rw [order_fv, fv_none.2 hn] at hx
      cases hx
  have hsome : ∃ o, FloatKind.f32.format.order x m = some o := by
    show ∃ o, (FloatKind.f32.decode x).order (FloatKind.f32.decode m) = some o
    cases hd : FloatKind.f32.decode x <;> cases hd' : FloatKind.f32.decode m <;> simp [hd, hd', Ieee.Datum.isNaN] at hxn hm <;> exact ⟨_, rfl⟩
  obtain ⟨o, ho⟩ := hsome
  unfold lem gtm
  rw [ho]
  cases o <;> rfl
def allV (m : Nat) (xs : List Nat) : Bool := xs.all fun x => okV x m
theorem allV_false {m : Nat} {xs : List Nat} {k : Nat} (hk : k < xs.length) (h : okV (xs.getD k 0) m = false) : allV m xs = false := by
  unfold allV
  rw [List.all_eq_false]
  refine ⟨xs[k], List.getElem_mem hk, ?_⟩
  have e : xs.getD k 0 = xs[k] := by simp [List.getD_eq_getElem?_getD, hk]
  rw [e] at h
  rw [h]; decide
theorem allV_true {m : Nat} {xs : List Nat} (h : ∀ k, k < xs.length → okV (xs.getD k 0) m = true) : allV m xs = true := by
  unfold allV
  rw [List.all_eq_true]
  intro x hx
  obtain ⟨k, hk, rfl⟩ := List.getElem_of_mem hx
  have e : xs.getD k 0 = xs[k] := by simp [List.getD_eq_getElem?_getD, hk]
  rw [← e]; exact h k hk

theorem c_areBetween (A : Option Addr) (cap most : Nat) (xs : List Nat) (w : World) (hA : Fl32 w A xs) (hm : xs.length ≤ 9223372036854775807) :
    Calls Try.prog 35 #[.slice A xs.length cap, .float .f32 most] w fun e w' => e = .returned (.bool (allV most xs)) ∧ w = w' := by
  by_cases hp : 0 < xs.length
  · obtain ⟨b, off, rfl, hb, hc⟩ := hA.of_pos hp
    have HC : Hid _ := hc
    clear hc hA
    go_enter Try.func35, Try.ntmps35
    go_wp2_with fail
    go_loop [6, 9] (fun v i => ∃ k : Nat, k ≤ xs.length ∧ i = .int .i64 k ∧ ∀ j, j < k → okV (xs.getD j 0) most = true) (fun _ i => xs.length - (intOf i).toNat)
    case atStart => exact ⟨0, Nat.zero_le _, rfl, fun j hj => absurd hj (Nat.not_lt_zero _)⟩
    case round =>
      obtain ⟨k, hk, rfl, hok⟩ := hrel
      have HO : Hid _ := hok
      clear hok
      by_cases hlt : k < xs.length
      · have h1 := HC.out k hlt
        cases hge : ge0 (xs.getD k 0)
        · have hg : ((FloatKind.f32.format.order (xs.getD k 0) 0 == some .gt) || (FloatKind.f32.format.order (xs.getD k 0) 0 == some .eq)) = false := hge
          have hall := allV_false (m := most) hlt (by unfold okV; rw [hge]; rfl)
          clear hge
          generalize xs.getD k 0 = x at *
          go_wp2_with fail
          go_ret
          exact ⟨by first | rfl | (rw [hall]; rfl), rfl⟩
        · have hg : ((FloatKind.f32.format.order (xs.getD k 0) 0 == some .gt) || (FloatKind.f32.format.order (xs.getD k 0) 0 == some .eq)) = true := hge
          cases hle : lem (xs.getD k 0) most
          · have hl : ((FloatKind.f32.format.order (xs.getD k 0) most == some .lt) || (FloatKind.f32.format.order (xs.getD k 0) most == some .eq)) = false := hle
            have hall := allV_false (m := most) hlt (by unfold okV; rw [hge, hle]; rfl)
            clear hge hle
            generalize xs.getD k 0 = x at *
            go_wp2_with fail
            go_ret
            exact ⟨by first | rfl | (rw [hall]; rfl), rfl⟩
          · have hl : ((FloatKind.f32.format.order (xs.getD k 0) most == some .lt) || (FloatKind.f32.format.order (xs.getD k 0) most == some .eq)) = true := hle
            have hnew : okV (xs.getD k 0) most = true := by unfold okV; rw [hge, hle]; rfl
            have HN : Hid _ := hnew
            clear hge hle hnew
            generalize hx : xs.getD k 0 = x at h1 hg hl
            have HX : Hid _ := hx
            clear hx
            go_wp2_with fail
            go_round
            case rel =>
              refine ⟨k + 1, by omega, by go_num, fun j hj => ?_⟩
              rcases Nat.lt_or_eq_of_le (Nat.le_of_lt_succ hj) with h | h
              · exact HO.out j h
              · rw [h]; exact HN.out
            case measure => simp [intOf]; omega
      · have hks : k = xs.length := by omega
        subst hks
        have hall := allV_true (m := most) HO.out
        go_wp2_with fail
        go_ret
        exact ⟨by first | rfl | (rw [hall]; rfl), rfl⟩
  · obtain rfl : xs = [] := List.eq_nil_of_length_eq_zero (by omega)
    go_enter Try.func35, Try.ntmps35
    go_wp2_with fail
    go_loop [6, 9] (fun v i => i = .int .i64 0) (fun _ _ => 0)
    case atStart => exact rfl
    case round =>
      obtain rfl := hrel
      go_wp2_with fail
      go_ret
      exact ⟨rfl, rfl⟩

/-- is it a valid sheet -/
def sheetV (wide high : Int) (xs ys : List Nat) : Bool := sidesV wide high && (decide ((xs.length : Int) = wide * high) && (decide ((ys.length : Int) = wide * high) && (allV 1056964608 xs && allV 1065353216 ys)))
theorem okV_gtm {x m : Nat} (hg : ge0 x = true) (hm : (FloatKind.f32.decode m).isNaN = false) : okV x m = !gtm x m := by
  unfold okV; rw [hg, lem_gtm hg hm]; rfl

set_option maxHeartbeats 1000000 in
theorem c_l02Is (b : Nat) (wide high : Int) (A : Option Addr) (c : Nat) (B : Option Addr) (d : Nat) (xs ys : List Nat) (w : World)
    (h0 : w.cell? ⟨b, 0, none⟩ = some (.int .i64 wide)) (h1 : w.cell? ⟨b, 1, none⟩ = some (.int .i64 high)) (h3 : w.cell? ⟨b, 3, none⟩ = some (.slice A xs.length c)) (h4 : w.cell? ⟨b, 4, none⟩ = some (.slice B ys.length d))
    (hA : Fl32 w A xs) (hB : Fl32 w B ys) (hx : xs.length ≤ 1048576) (hy : ys.length ≤ 1048576) :
    Calls Try.prog 32 #[.pointer (some ⟨b, 0, none⟩)] w (RB (sheetV wide high xs ys) w) := by
  have hS := c_l02Sides wide high
  cases hsd : sidesV wide high
  all_goals rw [hsd] at hS
  all_goals have HS : Hid _ := hS
  all_goals clear hS
  · have hv : sheetV wide high xs ys = false := by unfold sheetV; rw [hsd]; rfl
    rw [hv]
    go_enter Try.func32, Try.ntmps32
    go_wp2_with fail
    go_quiet ((go_at_call 39; exact still (HS.out _)))
    go_wp2_with fail
    go_ret
    exact ⟨rfl, _, rfl⟩
  · obtain ⟨a1, a2, a3, a4⟩ := sides_iff.1 hsd
    obtain ⟨m1, m2⟩ := mul_bound a1 a2 a3 a4
    have hw : IntKind.i64.wrap (wide * high) = wide * high := IntWalk.i64_in _ (by omega)
    by_cases hlx : (xs.length : Int) = wide * high
    · by_cases hly : (ys.length : Int) = wide * high
      · have hlen : ys.length = xs.length := by omega
        have hv : sheetV wide high xs ys = (allV 1056964608 xs && allV 1065353216 ys) := by unfold sheetV; rw [hsd, decide_eq_true hlx, decide_eq_true hly]; rfl
        rw [hv]
        have HV : Hid _ := hv
        clear hv
        go_enter Try.func32, Try.ntmps32
        go_wp2_with fail
        go_quiet ((go_at_call 39; exact still (HS.out _)))
        have HX : Hid _ := hlx
        clear hlx hly hw HS hsd a1 a2 a3 a4 m1 m2
        have hle : (xs.length : Int) ≤ 1048576 := by omega
        go_wp2_with fail
        go_loop [3] (fun i => ∃ k : Nat, k ≤ xs.length ∧ i = .int .i64 k ∧ ∀ j, j < k → okV (xs.getD j 0) 1056964608 = true ∧ okV (ys.getD j 0) 1065353216 = true) (fun i => xs.length - (intOf i).toNat)
        case atStart => exact ⟨0, Nat.zero_le _, rfl, fun j hj => absurd hj (Nat.not_lt_zero _)⟩
        case round =>
          obtain ⟨k, hk, rfl, hok⟩ := hrel
          have HO : Hid _ := hok
          clear hok
          by_cases hlt : k < xs.length
          · obtain ⟨bx, ox, rfl, hbx, cx⟩ := hA.at hlt
            obtain ⟨by', oy, rfl, hby, cy⟩ := hB.at (k := k) (by omega)
            have hltI : (k : Int) < xs.length := by omega
            have hltY : (k : Int) < ys.length := by omega
            have hX1 : ge0 (xs.getD k 0) = true → okV (xs.getD k 0) 1056964608 = !gtm (xs.getD k 0) 1056964608 := fun h => okV_gtm h (by decide)
            have hY1 : ge0 (ys.getD k 0) = true → okV (ys.getD k 0) 1065353216 = !gtm (ys.getD k 0) 1065353216 := fun h => okV_gtm h (by decide)
            have fX := @allV_false 1056964608 xs k hlt
            have fY := @allV_false 1065353216 ys k (by omega)
            have kX : ge0 (xs.getD k 0) = false → okV (xs.getD k 0) 1056964608 = false := fun h => by unfold okV; rw [h]; rfl
            have kY : ge0 (ys.getD k 0) = false → okV (ys.getD k 0) 1065353216 = false := fun h => by unfold okV; rw [h]; rfl
            generalize hgx : xs.getD k 0 = x at *
            generalize hgy : ys.getD k 0 = y at *
            have HGX : Hid _ := hgx
            have HGY : Hid _ := hgy
            clear hgx hgy
            cases g1 : ge0 x
            · have r1 : ((FloatKind.f32.format.order x 0 == some .gt) || (FloatKind.f32.format.order x 0 == some .eq)) = false := g1
              have R : Hid (allV 1056964608 xs = false) := fX (kX g1)
              clear hX1 hY1 fX fY kX kY g1
              go_wp2_with fail
              go_ret
              exact ⟨by rw [R.out]; rfl, _, rfl⟩
            · have r1 : ((FloatKind.f32.format.order x 0 == some .gt) || (FloatKind.f32.format.order x 0 == some .eq)) = true := g1
              cases g2 : gtm x 1056964608
              · have r2 : (FloatKind.f32.format.order x 1056964608 == some .gt) = false := g2
                have o1 : okV x 1056964608 = true := by rw [hX1 g1, g2]; rfl
                cases g3 : ge0 y
                · have r3 : ((FloatKind.f32.format.order y 0 == some .gt) || (FloatKind.f32.format.order y 0 == some .eq)) = false := g3
                  have R : Hid (allV 1065353216 ys = false) := fY (kY g3)
                  clear hX1 hY1 fX fY kX kY g1 g2 g3 o1
                  go_wp2_with fail
                  go_ret
                  exact ⟨by rw [R.out, Bool.and_false]; rfl, _, rfl⟩
                · have r3 : ((FloatKind.f32.format.order y 0 == some .gt) || (FloatKind.f32.format.order y 0 == some .eq)) = true := g3
                  cases g4 : gtm y 1065353216
                  · have r4 : (FloatKind.f32.format.order y 1065353216 == some .gt) = false := g4
                    have o2 : okV y 1065353216 = true := by rw [hY1 g3, g4]; rfl
                    have O1 : Hid _ := o1
                    have O2 : Hid _ := o2
                    clear hX1 hY1 fX fY kX kY g1 g2 g3 g4 o1 o2
                    go_wp2_with fail
                    go_round
                    case rel =>
                      refine ⟨k + 1, by omega, by go_num, fun j hj => ?_⟩
                      rcases Nat.lt_or_eq_of_le (Nat.le_of_lt_succ hj) with h | h
                      · exact HO.out j h
                      · rw [h, HGX.out, HGY.out]; exact ⟨O1.out, O2.out⟩
                    case measure => simp [intOf]; omega
                  · have r4 : (FloatKind.f32.format.order y 1065353216 == some .gt) = true := g4
                    have R : Hid (allV 1065353216 ys = false) := fY (by rw [hY1 g3, g4]; rfl)
                    clear hX1 hY1 fX fY kX kY g1 g2 g3 g4 o1
                    go_wp2_with fail
                    go_ret
                    exact ⟨by rw [R.out, Bool.and_false]; rfl, _, rfl⟩
              · have r2 : (FloatKind.f32.format.order x 1056964608 == some .gt) = true := g2
                have R : Hid (allV 1056964608 xs = false) := fX (by rw [hX1 g1, g2]; rfl)
                clear hX1 hY1 fX fY kX kY g1 g2
                go_wp2_with fail
                go_ret
                exact ⟨by rw [R.out]; rfl, _, rfl⟩
          · have hks : k = xs.length := by omega
            subst hks
            have R1 : Hid (allV 1056964608 xs = true) := allV_true fun j hj => (HO.out j hj).1
            have R2 : Hid (allV 1065353216 ys = true) := allV_true fun j hj => (HO.out j (by omega)).2
            go_wp2_with fail
            go_ret
            exact ⟨by rw [R1.out, R2.out]; rfl, _, rfl⟩
      · have hv : sheetV wide high xs ys = false := by unfold sheetV; rw [hsd, decide_eq_true hlx, decide_eq_false hly]; rfl
        rw [hv]
        go_enter Try.func32, Try.ntmps32
        go_wp2_with fail
        go_quiet ((go_at_call 39; exact still (HS.out _)))
        go_wp2_with fail
        go_ret
        exact ⟨rfl, _, rfl⟩
    · have hv : sheetV wide high xs ys = false := by unfold sheetV; rw [hsd, decide_eq_false hlx]; rfl
      rw [hv]
      go_enter Try.func32, Try.ntmps32
      go_wp2_with fail
      go_quiet ((go_at_call 39; exact still (HS.out _)))
      go_wp2_with fail
      go_ret
      exact ⟨rfl, _, rfl⟩

end Go.Proofs.Ytbfilganggllkaa
