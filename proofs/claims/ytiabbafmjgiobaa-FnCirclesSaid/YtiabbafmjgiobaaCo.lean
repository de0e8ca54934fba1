/-
The law FnCircles: the walk.
-/
import Derived.Test.YtiabbafmjgiobaaCm
set_option linter.unusedVariables false
set_option linter.unusedSimpArgs false
namespace Go.Proofs.Ytiabbafmjgiobaa
open Fl Go Go.RowKit

set_option maxRecDepth 100000 in
set_option maxHeartbeats 4000000 in
theorem walk_FnCircles (A : Option Addr) (c L : Nat) (B : Option Addr) (d M : Nat) (w : World) (hA : By w A L) (hB : By w B M) :
    Calls Try.prog 4 #[.slice A L c, .slice B M d] w (Law w) := by
  have HLong := hide_ (c_b10Long A B L M c d w)
  by_cases hlong : 1048576 < L ∨ 1048576 < M
  · rw [decide_eq_true hlong] at HLong
    clear hA hB
    go_enter Try.func4, Try.ntmps4
    go_wp2_with fail
    go_at_call 5
    refine Calls.mono HLong.out ?_
    rintro e w1 ⟨rfl, rfl⟩
    go_wp2_with fail
    go_ret
    exact ⟨rfl, Below.refl _ _⟩
  · rw [decide_eq_false hlong] at HLong
    obtain ⟨hL, hM⟩ : L ≤ 1048576 ∧ M ≤ 1048576 := by omega
    clear hlong
    have HA := hide_ hA
    have HB := hide_ hB
    have N1 := hide_ (fun W h => c_b10At (A := A) (L := L) (c := c) 0 256 W h hL (by decide) (by decide) (by decide))
    have N2 := hide_ (fun W h => c_b10At (A := A) (L := L) (c := c) 1 256 W h hL (by decide) (by decide) (by decide))
    have N3 := hide_ (fun W h => c_b10At (A := B) (L := M) (c := d) 0 200 W h hM (by decide) (by decide) (by decide))
    have N4 := hide_ (fun W h => c_b10At (A := B) (L := M) (c := d) 1 200 W h hM (by decide) (by decide) (by decide))
    clear hA hB
    go_enter Try.func4, Try.ntmps4
    go_wp2_with fail
    go_at_call 5
    refine Calls.mono HLong.out ?_
    rintro e w0 ⟨rfl, rfl⟩
    go_wp2_with fail
    go_at_call 6
    refine Calls.mono (N1.out _ HA.out) ?_
    rintro e w1 ⟨⟨x, hx, rfl⟩, rfl⟩
    go_wp2_with fail
    go_at_call 6
    refine Calls.mono (N2.out _ HA.out) ?_
    rintro e w1 ⟨⟨y, hy, rfl⟩, rfl⟩
    obtain ⟨r1, i1, r2, i2, r3, i3, a, aw, p, pw, u, v, rw, wh, C⟩ := circ_of hx hy
    have P1 := hide_ C.p1
    have P2 := hide_ C.p2
    have P3 := hide_ C.p3
    have PA := hide_ C.an
    have f1 := C.f1
    have f2 := C.f2
    have f3 := C.f3
    have n64 : NZ 4634204016564240384 := ⟨_, _, _, rfl, by decide⟩
    have F64 : Fnt 4634204016564240384 := n64.fin
    have PC := hide_ C.pc
    have PM := hide_ C.ml
    have PN := hide_ C.nr
    have HC := hide_ C
    clear C
    go_wp2_with fail
    go_at_call 16
    refine Calls.mono (P1.out _) ?_
    rintro e w1 ⟨rfl, k1, rfl⟩
    go_wp2_with fail
    go_at_call 16
    refine Calls.mono (P2.out _) ?_
    rintro e w1 ⟨rfl, k2, rfl⟩
    go_wp2_with fail
    go_at_call 16
    refine Calls.mono (P3.out _) ?_
    rintro e w1 ⟨rfl, k3, rfl⟩
    go_wp2_with fail
    go_at_call 17
    refine Calls.mono (PA.out _) ?_
    rintro e w1 ⟨rfl, k4, rfl⟩
    have ua : ∀ w, (convert 34 39 (.float .f32 a)).run Try.prog w = .ok (.float .f64 aw) w := HC.out.ua
    have fa := HC.out.fa
    have fg := HC.out.fg
    have ft := HC.out.ft
    have fs := HC.out.fs
    have cv := HC.out.cv
    have lo := HC.out.lo
    have hi := HC.out.hi
    have F5 : Fnt 4666723447345250304 := ⟨_, _, _, rfl⟩
    clear f2 f3 n64 P1 P2 P3 PA
    go_wp2_with fail
    go_at_call 19
    refine Calls.mono (PC.out _) ?_
    rintro e w1 ⟨rfl, rfl⟩
    have up : ∀ w, (convert 34 39 (.float .f32 p)).run Try.prog w = .ok (.float .f64 pw) w := HC.out.up
    have G1 := hide_ (fun W => c_gap pw 4607182418800017408 HC.out.fp ⟨_, _, _, rfl⟩ W)
    have pg := HC.out.pg
    generalize gapN pw 4607182418800017408 = g1 at G1 pg
    clear ua fa fs cv
    go_wp2_with fail
    go_at_call 18
    refine Calls.mono (G1.out _) ?_
    rintro e w1 ⟨rfl, rfl⟩
    go_wp2_with fail
    go_at_call 21
    refine Calls.mono (PM.out _) ?_
    rintro e w1 ⟨rfl, rfl⟩
    go_wp2_with fail
    go_at_call 20
    refine Calls.mono (PN.out _) ?_
    rintro e w1 ⟨rfl, rfl⟩
    have G2 := hide_ (fun W => c_gap _ _ HC.out.ft HC.out.fw W)
    have gt := HC.out.gt
    have md := HC.out.md
    generalize gapN (fsub (fmul aw 4634204016564240384) (floatOfInt .f64 ((x : Int) - 128))) (floatOfInt .f64 (wh - 10000)) = g2 at G2 gt
    go_wp2_with fail
    go_at_call 18
    refine Calls.mono (G2.out _) ?_
    rintro e w1 ⟨rfl, rfl⟩
    clear up fg ft f1 F64 F5
    have key : ¬ ((x : Int) - 128).tmod 16 = 0 ∨ (((x : Int) - 128).tmod 16 = 0 ∧ FloatKind.f64.format.order (gapN rw 0) 0 = some .eq) ∨ (((x : Int) - 128).tmod 16 = 0 ∧ ¬ FloatKind.f64.format.order (gapN rw 0) 0 = some .eq ∧ FloatKind.f64.format.order (gapN rw 0) 4607182418800017408 = some .eq) := by
      by_cases h16 : ((x : Int) - 128).tmod 16 = 0
      · by_cases h0 : FloatKind.f64.format.order (gapN rw 0) 0 = some .eq
        · exact .inr (.inl ⟨h16, h0⟩)
        · exact .inr (.inr ⟨h16, h0, ((HC.out.six h16).imp eq_of_beq eq_of_beq).resolve_left h0⟩)
      · exact .inl h16
    have ur : ∀ w, (convert 34 39 (.float .f32 r1)).run Try.prog w = .ok (.float .f64 rw) w := HC.out.ur
    have G3 := hide_ (fun W => c_gap rw 0 HC.out.fr ⟨_, _, _, rfl⟩ W)
    generalize gapN rw 0 = g3 at G3 key
    rcases key with h16 | ⟨h16, h0⟩ | ⟨h16, h0, h1⟩
    all_goals go_wp2_with fail
    iterate 2 all_goals try (
      go_at_call 18
      refine Calls.mono (G3.out _) ?_
      rintro e w1 ⟨rfl, rfl⟩
      go_wp2_with fail)
    all_goals (
      go_at_call 6
      refine Calls.mono (N3.out _ HB.out) ?_
      rintro e w1 ⟨⟨i, hi, rfl⟩, rfl⟩
      obtain ⟨qi, _⟩ := xF_of hi
      have q1 : ∀ w, (binOp .quo 34 (.float .f32 (floatOfInt .f32 (1 + (i : Int)))) (.float .f32 1090519040)).run Try.prog w = .ok (.float .f32 (xF i)) w := fun w => run_float_arith w _ _ _ _ _ _ qi
      clear qi
      go_wp2_with fail
      go_at_call 6
      refine Calls.mono (N4.out _ HB.out) ?_
      rintro e w1 ⟨⟨j, hj, rfl⟩, rfl⟩
      obtain ⟨qj, _⟩ := xF_of hj
      have q2 : ∀ w, (binOp .quo 34 (.float .f32 (floatOfInt .f32 (1 + (j : Int)))) (.float .f32 1090519040)).run Try.prog w = .ok (.float .f32 (xF j)) w := fun w => run_float_arith w _ _ _ _ _ _ qj
      clear qj
      obtain ⟨z, m, n, o, hz, tm, tn, to, ⟨bm, bn, bo⟩, l1, l2⟩ := tens_laws hi hj
      have q3 : ∀ w, (binOp .mul 34 (.float .f32 (xF i)) (.float .f32 (xF j))).run Try.prog w = .ok (.float .f32 z) w := fun w => run_float_arith w _ _ _ _ _ _ hz
      generalize xF i = xi at *
      generalize xF j = xj at *
      have TM := hide_ tm
      have TN := hide_ tn
      have TO := hide_ to
      clear tm tn to hz
      go_wp2_with fail
      go_at_call 22
      refine Calls.mono (TM.out _) ?_
      rintro e w1 ⟨rfl, k5, rfl⟩
      go_wp2_with fail
      go_at_call 22
      refine Calls.mono (TN.out _) ?_
      rintro e w1 ⟨rfl, k6, rfl⟩
      go_wp2_with fail
      go_at_call 22
      refine Calls.mono (TO.out _) ?_
      rintro e w1 ⟨rfl, k7, rfl⟩
      go_wp2_with fail
      go_at_call 22
      refine Calls.mono (tens_one _) ?_
      rintro e w1 ⟨rfl, k8, rfl⟩
      go_wp2_with fail
      go_at_call 17
      refine Calls.mono (c_phAngle (m := 16) (by decide) _) ?_
      rintro e w1 ⟨rfl, k9, rfl⟩
      go_wp2_with fail
      go_at_call 23
      refine Calls.mono (c_specSameNumber _ _ (by decide) (by decide) _) ?_
      rintro e w1 ⟨rfl, rfl⟩
      go_wp2_with fail
      go_ret
      refine ⟨rfl, ?_⟩
      repeat' (first | exact Below.refl _ _ | refine below_n ?_ _))

end Go.Proofs.Ytiabbafmjgiobaa
