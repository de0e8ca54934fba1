/-
Contracts and the walk of the law on DotNumbers.
-/
import Derived.Test.YtgkecanodapmgaaWf
set_option linter.unusedSimpArgs false
namespace Go.Proofs.Ytgkecanodapmgaa
open Fl Go.RowKit

/-- the sum of products from left to right -/
def dotV (xs ys : List Nat) : Nat → Option Nat
  | 0 => some 0
  | k + 1 => opf .add .f32 (dotV xs ys k) (opf .mul .f32 (fv .f32 (xs.getD k 0)) (fv .f32 (ys.getD k 0)))

/-- the kinds of what the statement 'sum = sum + a[i]*b[i]' leaves -/
def dotR (b off b' off' n cap c k r x y : Nat) : Nat → Value → Prop
  | 0, v => v = .float .f32 r
  | 1, v => v = .slice (some ⟨b, off, none⟩) n cap
  | 2, v => v = .int .i64 k
  | 3, v => v = .pointer (some ⟨b, off + k, none⟩)
  | 4, v => v = .float .f32 x
  | 5, v => v = .slice (some ⟨b', off', none⟩) n c
  | 6, v => v = .int .i64 k
  | 7, v => v = .pointer (some ⟨b', off' + k, none⟩)
  | 8, v => v = .float .f32 y
  | 9, v => ∃ p, RV .f32 (opf .mul .f32 (fv .f32 x) (fv .f32 y)) p ∧ v = .float .f32 p
  | 10, v => ∃ z, RV .f32 (opf .add .f32 (fv .f32 r) (opf .mul .f32 (fv .f32 x) (fv .f32 y))) z ∧ v = .float .f32 z
  | 11, v => ∃ z, RV .f32 (opf .add .f32 (fv .f32 r) (opf .mul .f32 (fv .f32 x) (fv .f32 y))) z ∧ v = .float .f32 z
  | _, _ => True

theorem c_l01Dot (A B : Option Addr) (cap c : Nat) (xs ys : List Nat) (w : World) (hA : Fl32 w A xs) (hB : Fl32 w B ys) (hm : xs.length ≤ 256) (hl : ys.length = xs.length) :
    Calls Try.prog 42 #[.slice A xs.length cap, .slice B ys.length c] w (RF .f32 (dotV xs ys xs.length) w) := by
  by_cases hp : 0 < xs.length
  · obtain ⟨b, off, rfl, hb, hc⟩ := hA.of_pos hp
    obtain ⟨b', off', rfl, hb', hc'⟩ := hB.of_pos (by omega)
    rw [hl] at hc'
    rw [hl]
    clear hA hB hl
    go_enter Try.func42, Try.ntmps42
    go_wp2_with fail
    have HC : Hid _ := hc
    have HC' : Hid _ := hc'
    clear hc hc'
    go_loopw [5, 6] (fun v i wr => ∃ k m r : Nat, k ≤ xs.length ∧ i = .int .i64 k ∧ v = .float .f32 r ∧ RV .f32 (dotV xs ys k) r ∧ wr = w.drewN m) (fun _ i _ => xs.length - (intOf i).toNat)
    case atStart => exact ⟨0, 0, 0, Nat.zero_le _, rfl, rfl, ⟨rfl, by decide⟩, rfl⟩
    case round =>
      obtain ⟨k, m, r, hk, rfl, rfl, hr, rfl⟩ := hrel
      by_cases hlt : k < xs.length
      · have h1 := HC.out k hlt
        have h2 := HC'.out k hlt
        have HD : Hid (dotV xs ys (k + 1) = opf .add .f32 (dotV xs ys k) (opf .mul .f32 (fv .f32 (xs.getD k 0)) (fv .f32 (ys.getD k 0)))) := rfl
        generalize xs.getD k 0 = x at h1 HD
        generalize ys.getD k 0 = y at h2 HD
        go_wp2_with fail
        refine wp_region_inv (dst := fun i => if i = 11 then 5 else 13 + i) (C := fun w' => ∃ q, w' = w.drewN q) (V := dotR b off b' off' xs.length cap c k r x y) (by kernel_rfl) (guards_none (by kernel_rfl)) (fun i j hi hj h => by simp at hi hj h; split at h <;> split at h <;> omega) (fun i hi => by simp at hi ⊢; split <;> omega) (edges_back (by kernel_rfl)) ⟨m + 1, rfl⟩ ?_ ?_
        · intro i o ho a wq hC hF hV hU
          obtain ⟨q, rfl⟩ := hC
          have f0 : a.tmps.getD 0 undef = .slice (some ⟨b, off, none⟩) xs.length cap := hF.rest 0 (fun i hi => by split <;> omega)
          have f1 : a.tmps.getD 1 undef = .slice (some ⟨b', off', none⟩) xs.length c := hF.rest 1 (fun i hi => by split <;> omega)
          have fi : a.tmps.getD 6 undef = .int .i64 k := hF.rest 6 (fun i hi => by split <;> omega)
          match i, ho with
          | 0, ho =>
            obtain rfl := Option.some.inj ho
            have fs : a.tmps.getD 5 undef = .float .f32 r := hU 11 _ rfl ⟨⟨0, .phase⟩, by simp, rfl, rfl⟩
            exact step_value rfl rfl ⟨q, rfl⟩ fs
          | 1, ho => obtain rfl := Option.some.inj ho; exact step_value rfl rfl ⟨q, rfl⟩ f0
          | 2, ho => obtain rfl := Option.some.inj ho; exact step_value rfl rfl ⟨q, rfl⟩ fi
          | 3, ho =>
            obtain rfl := Option.some.inj ho
            have e1 : a.tmps.getD 14 undef = .slice (some ⟨b, off, none⟩) xs.length cap := hV ⟨1, .data⟩ (by simp) rfl
            have e2 : a.tmps.getD 15 undef = .int .i64 k := hV ⟨2, .data⟩ (by simp) rfl
            refine step_value (v := .pointer (some ⟨b, off + k, none⟩)) (w' := w.drewN q) ?_ rfl ⟨q, rfl⟩ rfl
            clear hV hF hU f0 f1 fi
            go_simp
          | 4, ho =>
            obtain rfl := Option.some.inj ho
            have e3 : a.tmps.getD 16 undef = .pointer (some ⟨b, off + k, none⟩) := hV ⟨3, .data⟩ (by simp) rfl
            refine step_value (v := .float .f32 x) (w' := w.drewN q) ?_ rfl ⟨q, rfl⟩ rfl
            clear hV hF hU f0 f1 fi
            go_simp
          | 5, ho => obtain rfl := Option.some.inj ho; exact step_value rfl rfl ⟨q, rfl⟩ f1
          | 6, ho => obtain rfl := Option.some.inj ho; exact step_value rfl rfl ⟨q, rfl⟩ fi
          | 7, ho =>
            obtain rfl := Option.some.inj ho
            have e5 : a.tmps.getD 18 undef = .slice (some ⟨b', off', none⟩) xs.length c := hV ⟨5, .data⟩ (by simp) rfl
            have e6 : a.tmps.getD 19 undef = .int .i64 k := hV ⟨6, .data⟩ (by simp) rfl
            refine step_value (v := .pointer (some ⟨b', off' + k, none⟩)) (w' := w.drewN q) ?_ rfl ⟨q, rfl⟩ rfl
            clear hV hF hU f0 f1 fi
            go_simp
          | 8, ho =>
            obtain rfl := Option.some.inj ho
            have e7 : a.tmps.getD 20 undef = .pointer (some ⟨b', off' + k, none⟩) := hV ⟨7, .data⟩ (by simp) rfl
            refine step_value (v := .float .f32 y) (w' := w.drewN q) ?_ rfl ⟨q, rfl⟩ rfl
            clear hV hF hU f0 f1 fi
            go_simp
          | 9, ho =>
            obtain rfl := Option.some.inj ho
            have e4 : a.tmps.getD 17 undef = .float .f32 x := hV ⟨4, .data⟩ (by simp) rfl
            have e8 : a.tmps.getD 21 undef = .float .f32 y := hV ⟨8, .data⟩ (by simp) rfl
            obtain ⟨p, n, hp, hrun⟩ := run_fbin Try.prog (w.drewN q) .mul 22 .f32 x y rfl
            refine step_value (v := .float .f32 p) (w' := (w.drewN q).drewN n) ?_ rfl ⟨q + n, by simp⟩ ⟨p, hp, rfl⟩
            clear hV hF hU f0 f1 fi
            go_simp
          | 10, ho =>
            obtain rfl := Option.some.inj ho
            have e0 : a.tmps.getD 13 undef = .float .f32 r := hV ⟨0, .data⟩ (by simp) rfl
            have e9 : ∃ p, RV .f32 (opf .mul .f32 (fv .f32 x) (fv .f32 y)) p ∧ a.tmps.getD 22 undef = .float .f32 p := hV ⟨9, .data⟩ (by simp) rfl
            obtain ⟨p, hp, ep⟩ := e9
            obtain ⟨z, n, hz, hrun⟩ := run_fbin Try.prog (w.drewN q) .add 22 .f32 r p rfl
            refine step_value (v := .float .f32 z) (w' := (w.drewN q).drewN n) ?_ rfl ⟨q + n, by simp⟩ ⟨z, by rw [← hp.1]; exact hz, rfl⟩
            clear hV hF hU f0 f1 fi hp hz
            go_simp
          | 11, ho =>
            obtain rfl := Option.some.inj ho
            have e10 : ∃ z, RV .f32 (opf .add .f32 (fv .f32 r) (opf .mul .f32 (fv .f32 x) (fv .f32 y))) z ∧ a.tmps.getD 23 undef = .float .f32 z := hV ⟨10, .data⟩ (by simp) rfl
            exact step_value rfl rfl ⟨q, rfl⟩ e10
          | n + 12, ho => cases ho
        · intro a wq hC hF hV
          obtain ⟨q, rfl⟩ := hC
          have hf := hF.form (fun s => (13 ≤ s ∧ s < 24) ∨ s = 5) (fun s hs i hi => by simp at hi; split <;> omega)
          have e11 : ∃ z, RV .f32 (opf .add .f32 (fv .f32 r) (opf .mul .f32 (fv .f32 x) (fv .f32 y))) z ∧ a.tmps.getD 5 undef = .float .f32 z := hV 11 (by simp)
          obtain ⟨z, hz, ez⟩ := e11
          simp only [List.size_toArray, List.length_cons, List.length_nil, Nat.reduceAdd, List.range_succ, List.range_zero, List.nil_append, List.cons_append, List.map_cons, List.map_nil, Nat.reduceLeDiff, Nat.reduceLT, Nat.reduceEqDiff, Nat.le_refl, and_true, and_false, false_and, or_false, false_or, or_true, true_or, true_and, if_true, if_false, Array.getD_eq_getD_getElem?, List.getElem?_toArray, List.getElem?_cons_zero, List.getElem?_cons_succ, Option.getD_some] at hf ez
          rw [ez] at hf
          simp only [← Array.getD_eq_getD_getElem?] at hf
          clear hV hF ez
          generalize a.tmps.getD 13 undef = y13 at hf
          generalize a.tmps.getD 14 undef = y14 at hf
          generalize a.tmps.getD 15 undef = y15 at hf
          generalize a.tmps.getD 16 undef = y16 at hf
          generalize a.tmps.getD 17 undef = y17 at hf
          generalize a.tmps.getD 18 undef = y18 at hf
          generalize a.tmps.getD 19 undef = y19 at hf
          generalize a.tmps.getD 20 undef = y20 at hf
          generalize a.tmps.getD 21 undef = y21 at hf
          generalize a.tmps.getD 22 undef = y22 at hf
          generalize a.tmps.getD 23 undef = y23 at hf
          subst hf
          go_wp2_with fail
          go_roundw
          case rel => exact ⟨k + 1, q, z, by omega, by go_num, rfl, ⟨by rw [HD.out, ← hr.1]; exact hz.1, hz.2⟩, rfl⟩
          case measure => simp [intOf]; omega
      · have hks : k = xs.length := by omega
        subst hks
        go_wp2_with fail
        go_ret
        exact ⟨r, hr, rfl, m, rfl⟩
  · obtain rfl : xs = [] := List.eq_nil_of_length_eq_zero (by omega)
    obtain rfl : ys = [] := List.eq_nil_of_length_eq_zero (by omega)
    clear hl
    go_enter Try.func42, Try.ntmps42
    go_wp2_with fail
    go_loop [5, 6] (fun v i => v = .float .f32 0 ∧ i = .int .i64 0) (fun _ _ => 0)
    case atStart => exact ⟨rfl, rfl⟩
    case round =>
      obtain ⟨rfl, rfl⟩ := hrel
      go_wp2_with fail
      go_ret
      exact ⟨0, ⟨rfl, by decide⟩, rfl, 0, rfl⟩

theorem c_implDot (A B : Option Addr) (cap c : Nat) (xs ys : List Nat) (w : World) (hA : Fl32 w A xs) (hB : Fl32 w B ys) (hm : xs.length ≤ 256) (hl : ys.length = xs.length) :
    Calls Try.prog 19 #[.slice A xs.length cap, .slice B ys.length c] w (RS (dotV xs ys xs.length) true w) := by
  have hd : decide (256 < (xs.length : Int)) = false := by rw [decide_eq_false_iff_not]; omega
  by_cases hp : 0 < xs.length
  · obtain ⟨b, off, rfl, hb, hc⟩ := hA.of_pos hp
    obtain ⟨b', off', rfl, hb', hc'⟩ := hB.of_pos (by omega)
    rw [hl] at hc'
    rw [hl]
    clear hA hB hl
    go_enter Try.func19, Try.ntmps19
    go_wp2_with fail
    have HC : Hid _ := hc
    have HC' : Hid _ := hc'
    clear hc hc'
    go_loopw [6, 20] (fun v i wr => ∃ k m r : Nat, k ≤ xs.length ∧ i = .int .i64 k ∧ v = .float .f32 r ∧ RV .f32 (dotV xs ys k) r ∧ wr = w.drewN m) (fun _ i _ => xs.length - (intOf i).toNat)
    case atStart => exact ⟨0, 0, 0, Nat.zero_le _, rfl, rfl, ⟨rfl, by decide⟩, rfl⟩
    case round =>
      obtain ⟨k, m, r, hk, rfl, rfl, hr, rfl⟩ := hrel
      by_cases hlt : k < xs.length
      · have h1 := HC.out k hlt
        have h2 := HC'.out k hlt
        have HD : Hid (dotV xs ys (k + 1) = opf .add .f32 (dotV xs ys k) (opf .mul .f32 (fv .f32 (xs.getD k 0)) (fv .f32 (ys.getD k 0)))) := rfl
        generalize xs.getD k 0 = x at h1 HD
        generalize ys.getD k 0 = y at h2 HD
        go_wp2_with fail
        refine wp_region_inv (dst := fun i => if i = 11 then 6 else 23 + i) (C := fun w' => ∃ q, w' = w.drewN q) (V := dotR b off b' off' xs.length cap c k r x y) (by kernel_rfl) (guards_none (by kernel_rfl)) (fun i j hi hj h => by simp at hi hj h; split at h <;> split at h <;> omega) (fun i hi => by simp at hi ⊢; split <;> omega) (edges_back (by kernel_rfl)) ⟨m + 1, rfl⟩ ?_ ?_
        · intro i o ho a wq hC hF hV hU
          obtain ⟨q, rfl⟩ := hC
          have f0 : a.tmps.getD 0 undef = .slice (some ⟨b, off, none⟩) xs.length cap := hF.rest 0 (fun i hi => by split <;> omega)
          have f1 : a.tmps.getD 1 undef = .slice (some ⟨b', off', none⟩) xs.length c := hF.rest 1 (fun i hi => by split <;> omega)
          have fi : a.tmps.getD 7 undef = .int .i64 k := hF.rest 7 (fun i hi => by split <;> omega)
          match i, ho with
          | 0, ho =>
            obtain rfl := Option.some.inj ho
            have fs : a.tmps.getD 6 undef = .float .f32 r := hU 11 _ rfl ⟨⟨0, .phase⟩, by simp, rfl, rfl⟩
            exact step_value rfl rfl ⟨q, rfl⟩ fs
          | 1, ho => obtain rfl := Option.some.inj ho; exact step_value rfl rfl ⟨q, rfl⟩ f0
          | 2, ho => obtain rfl := Option.some.inj ho; exact step_value rfl rfl ⟨q, rfl⟩ fi
          | 3, ho =>
            obtain rfl := Option.some.inj ho
            have e1 : a.tmps.getD 24 undef = .slice (some ⟨b, off, none⟩) xs.length cap := hV ⟨1, .data⟩ (by simp) rfl
            have e2 : a.tmps.getD 25 undef = .int .i64 k := hV ⟨2, .data⟩ (by simp) rfl
            refine step_value (v := .pointer (some ⟨b, off + k, none⟩)) (w' := w.drewN q) ?_ rfl ⟨q, rfl⟩ rfl
            clear hV hF hU f0 f1 fi
            go_simp
          | 4, ho =>
            obtain rfl := Option.some.inj ho
            have e3 : a.tmps.getD 26 undef = .pointer (some ⟨b, off + k, none⟩) := hV ⟨3, .data⟩ (by simp) rfl
            refine step_value (v := .float .f32 x) (w' := w.drewN q) ?_ rfl ⟨q, rfl⟩ rfl
            clear hV hF hU f0 f1 fi
            go_simp
          | 5, ho => obtain rfl := Option.some.inj ho; exact step_value rfl rfl ⟨q, rfl⟩ f1
          | 6, ho => obtain rfl := Option.some.inj ho; exact step_value rfl rfl ⟨q, rfl⟩ fi
          | 7, ho =>
            obtain rfl := Option.some.inj ho
            have e5 : a.tmps.getD 28 undef = .slice (some ⟨b', off', none⟩) xs.length c := hV ⟨5, .data⟩ (by simp) rfl
            have e6 : a.tmps.getD 29 undef = .int .i64 k := hV ⟨6, .data⟩ (by simp) rfl
            refine step_value (v := .pointer (some ⟨b', off' + k, none⟩)) (w' := w.drewN q) ?_ rfl ⟨q, rfl⟩ rfl
            clear hV hF hU f0 f1 fi
            go_simp
          | 8, ho =>
            obtain rfl := Option.some.inj ho
            have e7 : a.tmps.getD 30 undef = .pointer (some ⟨b', off' + k, none⟩) := hV ⟨7, .data⟩ (by simp) rfl
            refine step_value (v := .float .f32 y) (w' := w.drewN q) ?_ rfl ⟨q, rfl⟩ rfl
            clear hV hF hU f0 f1 fi
            go_simp
          | 9, ho =>
            obtain rfl := Option.some.inj ho
            have e4 : a.tmps.getD 27 undef = .float .f32 x := hV ⟨4, .data⟩ (by simp) rfl
            have e8 : a.tmps.getD 31 undef = .float .f32 y := hV ⟨8, .data⟩ (by simp) rfl
            obtain ⟨p, n, hp, hrun⟩ := run_fbin Try.prog (w.drewN q) .mul 22 .f32 x y rfl
            refine step_value (v := .float .f32 p) (w' := (w.drewN q).drewN n) ?_ rfl ⟨q + n, by simp⟩ ⟨p, hp, rfl⟩
            clear hV hF hU f0 f1 fi
            go_simp
          | 10, ho =>
            obtain rfl := Option.some.inj ho
            have e0 : a.tmps.getD 23 undef = .float .f32 r := hV ⟨0, .data⟩ (by simp) rfl
            have e9 : ∃ p, RV .f32 (opf .mul .f32 (fv .f32 x) (fv .f32 y)) p ∧ a.tmps.getD 32 undef = .float .f32 p := hV ⟨9, .data⟩ (by simp) rfl
            obtain ⟨p, hp, ep⟩ := e9
            obtain ⟨z, n, hz, hrun⟩ := run_fbin Try.prog (w.drewN q) .add 22 .f32 r p rfl
            refine step_value (v := .float .f32 z) (w' := (w.drewN q).drewN n) ?_ rfl ⟨q + n, by simp⟩ ⟨z, by rw [← hp.1]; exact hz, rfl⟩
            clear hV hF hU f0 f1 fi hp hz
            go_simp
          | 11, ho =>
            obtain rfl := Option.some.inj ho
            have e10 : ∃ z, RV .f32 (opf .add .f32 (fv .f32 r) (opf .mul .f32 (fv .f32 x) (fv .f32 y))) z ∧ a.tmps.getD 33 undef = .float .f32 z := hV ⟨10, .data⟩ (by simp) rfl
            exact step_value rfl rfl ⟨q, rfl⟩ e10
          | n + 12, ho => cases ho
        · intro a wq hC hF hV
          obtain ⟨q, rfl⟩ := hC
          have hf := hF.form (fun s => (23 ≤ s ∧ s < 34) ∨ s = 6) (fun s hs i hi => by simp at hi; split <;> omega)
          have e11 : ∃ z, RV .f32 (opf .add .f32 (fv .f32 r) (opf .mul .f32 (fv .f32 x) (fv .f32 y))) z ∧ a.tmps.getD 6 undef = .float .f32 z := hV 11 (by simp)
          obtain ⟨z, hz, ez⟩ := e11
          simp only [List.size_toArray, List.length_cons, List.length_nil, Nat.reduceAdd, List.range_succ, List.range_zero, List.nil_append, List.cons_append, List.map_cons, List.map_nil, Nat.reduceLeDiff, Nat.reduceLT, Nat.reduceEqDiff, Nat.le_refl, and_true, and_false, false_and, or_false, false_or, or_true, true_or, true_and, if_true, if_false, Array.getD_eq_getD_getElem?, List.getElem?_toArray, List.getElem?_cons_zero, List.getElem?_cons_succ, Option.getD_some] at hf ez
          rw [ez] at hf
          simp only [← Array.getD_eq_getD_getElem?] at hf
          clear hV hF ez
          generalize a.tmps.getD 23 undef = y23 at hf
          generalize a.tmps.getD 24 undef = y24 at hf
          generalize a.tmps.getD 25 undef = y25 at hf
          generalize a.tmps.getD 26 undef = y26 at hf
          generalize a.tmps.getD 27 undef = y27 at hf
          generalize a.tmps.getD 28 undef = y28 at hf
          generalize a.tmps.getD 29 undef = y29 at hf
          generalize a.tmps.getD 30 undef = y30 at hf
          generalize a.tmps.getD 31 undef = y31 at hf
          generalize a.tmps.getD 32 undef = y32 at hf
          generalize a.tmps.getD 33 undef = y33 at hf
          subst hf
          go_wp2_with fail
          go_roundw
          case rel => exact ⟨k + 1, q, z, by omega, by go_num, rfl, ⟨by rw [HD.out, ← hr.1]; exact hz.1, hz.2⟩, rfl⟩
          case measure => simp [intOf]; omega
      · have hks : k = xs.length := by omega
        subst hks
        go_wp2_with fail
        go_ret2
        exact ⟨r, hr, rfl, m, rfl⟩
  · obtain rfl : xs = [] := List.eq_nil_of_length_eq_zero (by omega)
    obtain rfl : ys = [] := List.eq_nil_of_length_eq_zero (by omega)
    clear hd hl
    go_enter Try.func19, Try.ntmps19
    go_wp2_with fail
    go_loop [6, 20] (fun v i => v = .float .f32 0 ∧ i = .int .i64 0) (fun _ _ => 0)
    case atStart => exact ⟨rfl, rfl⟩
    case round =>
      obtain ⟨rfl, rfl⟩ := hrel
      go_wp2_with fail
      go_ret2
      exact ⟨0, ⟨rfl, by decide⟩, rfl, 0, rfl⟩

theorem c_implDot_no (A B : Option Addr) (cap c n m : Nat) (w : World) (hn : n ≤ 9223372036854775807) (_ : m ≤ 9223372036854775807) (h : 256 < n ∨ n ≠ m) :
    Calls Try.prog 19 #[.slice A n cap, .slice B m c] w (RS (some 0) false w) := by
  by_cases h1 : 256 < n
  · have hd : decide (256 < (n : Int)) = true := by rw [decide_eq_true_iff]; omega
    go_enter Try.func19, Try.ntmps19
    go_wp2_with fail
    go_ret2
    exact ⟨0, ⟨rfl, by decide⟩, rfl, 0, rfl⟩
  · have hd : decide (256 < (n : Int)) = false := by rw [decide_eq_false_iff_not]; omega
    have hne : ((n : Int) != (m : Int)) = true := by rw [bne_iff_ne]; omega
    go_enter Try.func19, Try.ntmps19
    go_wp2_with fail
    go_ret2
    exact ⟨0, ⟨rfl, by decide⟩, rfl, 0, rfl⟩

theorem c_specDot (A B : Option Addr) (cap c : Nat) (xs ys : List Nat) (w : World) (hA : Fl32 w A xs) (hB : Fl32 w B ys) (hm : xs.length ≤ 256) (hl : ys.length = xs.length) :
    Calls Try.prog 17 #[.slice A xs.length cap, .slice B ys.length c] w (RS (dotV xs ys xs.length) true w) := by
  have hd : decide (xs.length ≤ 256) = true := decide_eq_true hm
  have he : ((xs.length : Int) != (ys.length : Int)) = false := by rw [hl]; simp
  have HL : Hid _ := hl
  clear hl
  go_enter Try.func17, Try.ntmps17
  go_wp2_with (first | (go_at_call 41; refine (c_l01Few _ _ _ (by omega) _).mono ?_; rw [hd]; rintro e w' ⟨rfl, rfl⟩) | (go_at_call 42; refine (c_l01Dot _ _ _ _ _ _ _ hA hB hm HL.out).mono ?_; rintro e w' ⟨r, hr, rfl, m, rfl⟩))
  go_ret2
  exact ⟨r, hr, rfl, m, rfl⟩
theorem c_specDot_no (A B : Option Addr) (cap c n m : Nat) (w : World) (hn : n ≤ 9223372036854775807) (_ : m ≤ 9223372036854775807) (h : 256 < n ∨ n ≠ m) :
    Calls Try.prog 17 #[.slice A n cap, .slice B m c] w (RS (some 0) false w) := by
  by_cases h1 : 256 < n
  · have hd : decide (n ≤ 256) = false := decide_eq_false (by omega)
    go_enter Try.func17, Try.ntmps17
    go_wp2_with (go_at_call 41; refine (c_l01Few _ _ _ hn _).mono ?_; rw [hd]; rintro e w' ⟨rfl, rfl⟩)
    go_ret2
    exact ⟨0, ⟨rfl, by decide⟩, rfl, 0, rfl⟩
  · have hd : decide (n ≤ 256) = true := decide_eq_true (by omega)
    have hne : ((n : Int) != (m : Int)) = true := by rw [bne_iff_ne]; omega
    go_enter Try.func17, Try.ntmps17
    go_wp2_with (go_at_call 41; refine (c_l01Few _ _ _ hn _).mono ?_; rw [hd]; rintro e w' ⟨rfl, rfl⟩)
    go_ret2
    exact ⟨0, ⟨rfl, by decide⟩, rfl, 0, rfl⟩

theorem law_dot (A B : Option Addr) (cap c : Nat) (xs ys : List Nat) (w : World) (hA : Fl32 w A xs) (hx : All32 xs) (h2 : xs.length ≤ 1048576) (hB : Fl32 w B ys) (hy : All32 ys) (g2 : ys.length ≤ 1048576) (v : Option Nat) (ok : Bool)
    (hs : ∀ (A B : Option Addr) (c d : Nat) (w : World), Fl32 w A xs → Fl32 w B ys → Calls Try.prog 17 #[.slice A xs.length c, .slice B ys.length d] w (RS v ok w))
    (hi : ∀ (A B : Option Addr) (c d : Nat) (w : World), Fl32 w A xs → Fl32 w B ys → Calls Try.prog 19 #[.slice A xs.length c, .slice B ys.length d] w (RS v ok w)) :
    Calls Try.prog 5 #[.slice A xs.length cap, .slice B ys.length c] w (Law w) := by
  have HS : Hid _ := hs
  have HI : Hid _ := hi
  clear hs hi
  have hl : (xs.length : Int) ≤ 1048576 := by omega
  have gl : (ys.length : Int) ≤ 1048576 := by omega
  go_enter Try.func5, Try.ntmps5
  go_wp2_with fail
  go_at_call 18
  refine (c_toFloat32S A cap xs _ hA h2).mono ?_
  rintro e w1 ⟨rfl, b1, s1, F1⟩
  have A1 := hA.keep b1 (Nat.le_refl _)
  have B1 := hB.keep b1 (Nat.le_refl _)
  go_wp2_with fail
  go_at_call 18
  refine (c_toFloat32S B c ys _ B1 g2).mono ?_
  rintro e w2 ⟨rfl, b2, s2, F2⟩
  have F1' := F1.keep b2 (Nat.le_refl _)
  have A2 := A1.keep b2 (Nat.le_refl _)
  have B2 := B1.keep b2 (Nat.le_refl _)
  have L2 : Below w.heap.size w w2 := b1.trans (b2.mono b1.size)
  clear b1 b2 A1 B1
  go_wp2_with fail
  go_at_call 17
  refine (HS.out _ _ _ _ _ F1' F2).mono ?_
  rintro e w3 ⟨r, hr, rfl, m, rfl⟩
  go_wp2_with fail
  go_at_call 18
  refine (c_toFloat32S A cap xs _ (A2.drewN _) h2).mono ?_
  rintro e w4 ⟨rfl, b4, s4, F4⟩
  have A4 := (A2.drewN m).keep b4 (Nat.le_refl _)
  have B4 := (B2.drewN m).keep b4 (Nat.le_refl _)
  have L4 : Below w.heap.size w w4 := L2.trans ((below_n (Below.refl _ _) m).trans (b4.mono L2.size))
  clear b4 L2 A2 B2
  go_wp2_with fail
  go_at_call 18
  refine (c_toFloat32S B c ys _ B4 g2).mono ?_
  rintro e w5 ⟨rfl, b5, s5, F5⟩
  have F4' := F4.keep b5 (Nat.le_refl _)
  have A5 := A4.keep b5 (Nat.le_refl _)
  have B5 := B4.keep b5 (Nat.le_refl _)
  have L5 : Below w.heap.size w w5 := L4.trans (b5.mono L4.size)
  clear b5 L4 A4 B4
  go_wp2_with fail
  go_at_call 19
  refine (HI.out _ _ _ _ _ F4' F5).mono ?_
  rintro e w6 ⟨r', hr', rfl, m', rfl⟩
  go_wp2_with (first | ((with_reducible refine upon_widen Try.underlying22 Try.underlying26 (rv32 hr) ?_); intro q n hq) | ((with_reducible refine upon_widen Try.underlying22 Try.underlying26 (rv32 hr') ?_); intro q' n' hq') | (go_at_call 14; refine (c_sameFloat _ _ (by rw [hq.1, hq'.1, hr.1, hr'.1]) _).mono ?_; rintro e w' ⟨rfl, n2, rfl⟩))
  go_at_call 18
  refine (c_toFloat32S A cap xs _ (A5.drewN _) h2).mono ?_
  rintro e w7 ⟨rfl, b7, s7, F7⟩
  have F4b := (F4'.drewN _).keep b7 (Nat.le_refl _)
  have F5b := (F5.drewN _).keep b7 (Nat.le_refl _)
  have B7 := (B5.drewN _).keep b7 (Nat.le_refl _)
  have L7 : Below w.heap.size w w7 := L5.trans ((below_n (Below.refl _ _) _).trans (b7.mono L5.size))
  clear b7 L5
  go_wp2_with fail
  go_at_call 20
  refine (c_eqFloat32S _ _ _ _ xs _ F4b F7 hx (by omega)).mono ?_
  rintro e w8 ⟨rfl, m8, rfl⟩
  go_wp2_with fail
  go_at_call 18
  refine (c_toFloat32S B c ys _ (B7.drewN _) g2).mono ?_
  rintro e w9 ⟨rfl, b9, s9, F9⟩
  have F5c := (F5b.drewN _).keep b9 (Nat.le_refl _)
  have L9 : Below w.heap.size w w9 := L7.trans ((below_n (Below.refl _ _) _).trans (b9.mono L7.size))
  clear b9 L7
  go_wp2_with fail
  go_at_call 20
  refine (c_eqFloat32S _ _ _ _ ys _ F5c F9 hy (by omega)).mono ?_
  rintro e w10 ⟨rfl, m10, rfl⟩
  go_wp2_with fail
  go_ret
  exact ⟨rfl, below_n L9 _⟩

theorem walk_FnExactDotNumbers (A : Option Addr) (cap : Nat) (xs : List Nat) (B : Option Addr) (c : Nat) (ys : List Nat) (w : World) (hA : Fl32 w A xs) (hx : All32 xs) (hm : xs.length ≤ maxLen) (hB : Fl32 w B ys) (hy : All32 ys) (gm : ys.length ≤ maxLen) :
    Calls Try.prog 5 #[.slice A xs.length cap, .slice B ys.length c] w (Law w) := by
  unfold maxLen at hm gm
  by_cases h2 : xs.length ≤ 1048576
  · by_cases g2 : ys.length ≤ 1048576
    · by_cases h1 : xs.length ≤ 256 ∧ ys.length = xs.length
      · exact law_dot A B cap c xs ys w hA hx h2 hB hy g2 _ true (fun A B c d w h g => c_specDot A B c d xs ys w h g h1.1 h1.2) (fun A B c d w h g => c_implDot A B c d xs ys w h g h1.1 h1.2)
      · have hn : 256 < xs.length ∨ xs.length ≠ ys.length := by omega
        exact law_dot A B cap c xs ys w hA hx h2 hB hy g2 (some 0) false (fun A B c d w _ _ => c_specDot_no A B c d _ _ w (by omega) (by omega) hn) (fun A B c d w _ _ => c_implDot_no A B c d _ _ w (by omega) (by omega) hn)
    · have hl : (xs.length : Int) ≤ 1048576 := by omega
      have gl : 1048576 < (ys.length : Int) := by omega
      go_enter Try.func5, Try.ntmps5
      go_wp2_with fail
      go_ret
      exact ⟨rfl, Below.refl _ _⟩
  · have hl : 1048576 < (xs.length : Int) := by omega
    go_enter Try.func5, Try.ntmps5
    go_wp2_with fail
    go_ret
    exact ⟨rfl, Below.refl _ _⟩

end Go.Proofs.Ytgkecanodapmgaa
