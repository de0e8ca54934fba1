/-
The law on ReadComplex, walked.
-/
import Derived.Test.YticggbmmeefelaaDoorCd
import Derived.Test.YticggbmmeefelaaDoorCe
set_option linter.unusedVariables false
set_option linter.unusedSimpArgs false
namespace Go.Proofs.YticggbmmeefelaaDoor
open Fl Go Go.RowKit

theorem drew_belowC {B : Nat} (w : World) (n : Nat) : Below B w (w.drewN n) := ⟨rfl, rfl, rfl, Nat.le_refl _, fun _ _ => rfl⟩
theorem OwnC.fcAt {base : Nat} {xs : List (Nat × Nat)} {A : Option Addr} {n c : Nat} {w : World} (h : OwnC base xs (.slice A n c) w) : Fc w A xs := by
  obtain ⟨A', c', e, hF⟩ := Fc.of_own h
  simp only [Value.slice.injEq] at e
  rw [e.1]
  exact hF
theorem OwnC.row {base : Nat} {xs : List (Nat × Nat)} {v : Value} {w : World} (h : OwnC base xs v w) (q : Nat) (hq : v.ownBlock = some q) : base ≤ q := by
  obtain ⟨A, c, rfl, h1⟩ := h
  exact (World.ownsRow.lt h1 q hq).1
theorem lstC_len (s : ByteArray) : (lstC s).length ≤ 256 := by
  unfold lstC
  split
  · simp
  · split
    · rename_i h1 h2
      unfold accC at h2
      simp only [Bool.or_eq_true, Bool.and_eq_true, decide_eq_true_eq] at h2
      rcases h2 with h2 | h2
      · exact absurd h2 h1
      · simpa using h2.1
    · simp
theorem lstC_all (s : ByteArray) : AllC (lstC s) := by
  unfold lstC
  split
  · intro j; exact ⟨Nat.zero_lt_succ _, Nat.zero_lt_succ _⟩
  · split
    · rename_i h1 h2
      unfold accC at h2
      simp only [Bool.or_eq_true, Bool.and_eq_true, decide_eq_true_eq] at h2
      rcases h2 with h2 | h2
      · exact absurd h2 h1
      · refine all_vC fun k hk => ?_
        have e : (sp s).getD k default = (sp s)[k] := by simp [List.getD_eq_getElem?_getD, hk]
        have := List.all_eq_true.1 h2.2 _ (List.getElem_mem hk)
        rw [← e] at this
        unfold okC at this
        simp only [Bool.and_eq_true, decide_eq_true_eq] at this
        exact this.1
    · intro j; exact ⟨Nat.zero_lt_succ _, Nat.zero_lt_succ _⟩

set_option maxRecDepth 100000 in
theorem walk_FnExactReadComplex (s : ByteArray) (hs : s.size ≤ maxLen) (w : World) (hv : VarsM w) (hz : Tz w) : Calls Tryd.prog 9 #[.string s] w (LawD w) := by
  unfold maxLen at hs
  by_cases hbig : s.size ≤ 1048576
  · have hI : ¬ (1048576 : Int) < s.size := by omega
    have H1 := c_specReadComplex s w hbig
    have H2 := fun W (h : VarsM W) (hz : Tz W) => c_implReadComplex s W hbig h hz
    unfold CReadGives at H1 H2
    have hl := lstC_len s
    generalize accC s = nb at H1 H2
    have hax := lstC_all s
    generalize lstC s = xs at H1 H2 hl hax
    have HS := hide_ H1
    have HI := hide_ H2
    have HV := hide_ hv
    have HZ := hide_ hz
    have AX := hide_ hax
    have HL := hide_ hl
    clear hs hv hz H1 H2 hl hax
    go_enter Tryd.func9, Tryd.ntmps9
    go_wp2_with fail
    go_at_call 30
    refine Calls.mono HS.out ?_
    rintro e w1 ⟨v1, rfl, hO1, hB1⟩
    obtain ⟨A1, c1, rfl, hF1⟩ := Fc.of_own hO1
    have F1 := hide_ hF1
    have B1 := hide_ hB1
    clear hO1 hB1 hF1
    go_wp2_with fail
    go_at_call 31
    refine (HI.out _ (HV.out.keep B1.out) (HZ.out.keep B1.out)).mono ?_
    rintro e w2 ⟨v2, rfl, hO2, hB2⟩
    obtain ⟨A2, c2, rfl, hF2⟩ := Fc.of_own hO2
    have O2 := hide_ hO2
    have B2 := hide_ (B1.out.trans (hB2.mono B1.out.size))
    have F12 := hide_ (F1.out.keep hB2 (Nat.le_refl _))
    have S12 := hide_ hB2.size
    have E1 := hide_ (c_eqComplex64S A2 A1 c2 c1 xs w2 hF2 F12.out AX.out (by have := HL.out; omega))
    clear hO2 hB2 hF2
    go_wp2_with fail
    go_at_call 32
    refine Calls.mono E1.out ?_
    rintro e w3 ⟨rfl, n3, hw3⟩
    have B3 := hide_ (show Below w.heap.size w w3 by rw [hw3]; exact B2.out.trans (drew_belowC _ _))
    have F13 := hide_ (show Fc w3 A1 xs by rw [hw3]; exact F12.out.keep (drew_belowC (B := w2.heap.size) _ _) (Nat.le_refl _))
    have O3 := hide_ (show OwnC w1.heap.size xs (.slice A2 xs.length c2) w3 by rw [hw3]; exact O2.out.keep (drew_belowC _ _))
    have S13 := hide_ (show w1.heap.size ≤ w3.heap.size by rw [hw3]; exact S12.out)
    clear hw3 E1
    have M1 : Hid (Calls Tryd.prog 33 #[.slice A2 xs.length c2, .int .i64 1] w3 fun e w' => e = .returned (.int .i64 (1 + xs.length : Nat)) ∧ OwnC w1.heap.size (marksC 1 xs.length) (.slice A2 xs.length c2) w' ∧ w3.grownBy w' (Value.slice A2 xs.length c2).ownBlock ∧ w'.heap.size = w3.heap.size) :=
      c_markComplex64S w1.heap.size (.slice A2 xs.length c2) xs 1 w3 O3.out (by have := HL.out; omega)
    go_wp2_with fail
    go_at_call 33
    refine Calls.mono M1.out ?_
    rintro e w4 ⟨rfl, hO4, hg4, hs4⟩
    have O4 := hide_ hO4
    have B34 := hide_ (show Below w1.heap.size w3 w4 from (Below.refl w1.heap.size w3).grown hg4 S13.out (fun q hq => O3.out.row q hq))
    have B4 := hide_ (B3.out.trans (B34.out.mono B1.out.size))
    have F14 := hide_ (show Fc w4 A1 xs by
      rcases F1.out with h | ⟨b, off, rfl, hb, _⟩
      · exact .inl h
      · rcases F13.out with h | ⟨b', off', e, _, hc⟩
        · exact .inl h
        · cases e
          refine .inr ⟨b, off, rfl, Nat.lt_of_lt_of_le (Nat.lt_of_lt_of_le hb S13.out) B34.out.size, fun j hj => ?_⟩
          rw [B34.out.cell (p := ⟨b, off + j, none⟩) hb]
          exact hc j hj)
    have HD : Hid (∀ W, OwnC w1.heap.size (marksC 1 xs.length) (.slice A2 xs.length c2) W → Calls Tryd.prog 34 #[.slice A2 xs.length c2, .int .i64 1] W fun e w' => e = .returned (.int .i64 (1 + xs.length : Nat)) ∧ W = w') :=
      fun W hW => c_heldComplex64S A2 c2 xs.length 1 W hW.fcAt (by have := HL.out; omega)
    clear hO4 hg4 hs4 M1
    generalize hq : 1 + xs.length = q at HD
    have hq0 : ¬ ((q : Nat) : Int) < 0 := by omega
    clear hq
    have HD4 := hide_ (HD.out w4 O4.out)
    go_wp2_with fail
    go_at_call 34
    refine Calls.mono HD4.out ?_
    rintro e w4' ⟨rfl, rfl⟩
    go_wp2_with fail
    go_at_call 31
    refine (HI.out _ (HV.out.keep B4.out) (HZ.out.keep B4.out)).mono ?_
    rintro e w5 ⟨v5, rfl, hO5, hB5⟩
    obtain ⟨A5, c5, rfl, hF5⟩ := Fc.of_own hO5
    have B5 := hide_ (B4.out.trans (hB5.mono B4.out.size))
    have O5 := hide_ (O4.out.keep hB5)
    have F15 := hide_ (F14.out.keep hB5 (Nat.le_refl _))
    have E2 := hide_ (c_eqComplex64S A5 A1 c5 c1 xs w5 hF5 F15.out AX.out (by have := HL.out; omega))
    clear hO5 hB5 hF5
    go_wp2_with fail
    go_at_call 32
    refine Calls.mono E2.out ?_
    rintro e w6 ⟨rfl, n6, hw6⟩
    have B6 := hide_ (show Below w.heap.size w w6 by rw [hw6]; exact B5.out.trans (drew_belowC _ _))
    have O6 := hide_ (show OwnC w1.heap.size (marksC 1 xs.length) (.slice A2 xs.length c2) w6 by rw [hw6]; exact O5.out.keep (drew_belowC _ _))
    have HD6 := hide_ (HD.out w6 O6.out)
    clear hw6 E2
    go_wp2_with fail
    go_at_call 34
    refine Calls.mono HD6.out ?_
    rintro e w6' ⟨rfl, rfl⟩
    go_wp2_with fail
    go_ret
    exact ⟨rfl, B6.out⟩
  · have hI : (1048576 : Int) < s.size := by omega
    clear hs
    go_enter Tryd.func9, Tryd.ntmps9
    go_wp2_with fail
    go_ret
    exact ⟨rfl, Below.refl _ _⟩

end Go.Proofs.YticggbmmeefelaaDoor
