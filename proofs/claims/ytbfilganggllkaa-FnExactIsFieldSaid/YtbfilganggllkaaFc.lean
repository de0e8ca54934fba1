/-
Fields of a sheet: the contract in the program.
-/
import Derived.Test.YtbfilganggllkaaFb
set_option linter.unusedVariables false
set_option linter.unusedSimpArgs false
namespace Go.Proofs.Ytbfilganggllkaa
open Fl Go.RowKit

theorem c_implIsField_no (wide high : Int) (wrap : Bool) (XA : Option Addr) (xa : Nat) (XB : Option Addr) (xb : Nat) (xs ys : List Nat) (A : Option Addr) (a : Nat) (B : Option Addr) (b : Nat) (C : Option Addr) (c : Nat) (es fs gs : List Nat) (w : World) (hX : Fl32 w XA xs) (hY : Fl32 w XB ys) (fA : Fl32 w A es) (fB : Fl32 w B fs) (fC : Fl32 w C gs) (hx : xs.length ≤ 1048576) (hy : ys.length ≤ 1048576) (he : es.length ≤ 1048576) (hf : fs.length ≤ 1048576) (hg : gs.length ≤ 1048576) (hv : sheetV wide high xs ys = false) :
    Calls Try.prog 26 #[.agg #[.int .i64 wide, .int .i64 high, .bool wrap, .slice XA xs.length xa, .slice XB ys.length xb], .agg #[.slice A es.length a, .slice B fs.length b, .slice C gs.length c]] w (Gives (fun v _ => v = .bool false) w) := by
  have hB0 : Below w.heap.size w ((w.alloc (Obj.cells #[.int .i64 wide, .int .i64 high, .bool wrap, .slice XA xs.length xa, .slice XB ys.length xb] 27)).alloc (Obj.cells #[.slice A es.length a, .slice B fs.length b, .slice C gs.length c] 35)) := ((Below.refl _ _).alloc (Nat.le_refl _) _).alloc (by simp) _
  have H := hide0 (c_implValid wide high wrap XA xa XB xb xs ys _ (hX.keep hB0 (Nat.le_refl _)) (hY.keep hB0 (Nat.le_refl _)) hx hy)
  rw [hv] at H
  have HB := hide0 hB0
  clear hB0 hv hX hY fA fB fC
  go_enter Try.func26, Try.ntmps26
  go_wp2_with fail
  go_at_call 12
  refine Calls.mono H.out ?_
  rintro e w1 ⟨rfl, hB1⟩
  have HB1 := hide0 (HB.out.trans (hB1.mono HB.out.size))
  clear hB1
  go_wp2_with fail
  go_ret
  exact ⟨HB1.out, _, rfl, rfl⟩

set_option maxRecDepth 100000 in
set_option maxHeartbeats 4000000 in
theorem c_implIsField_yes (wN hN : Nat) (wrap : Bool) (XA : Option Addr) (xa : Nat) (XB : Option Addr) (xb : Nat) (xs ys : List Nat) (A : Option Addr) (a : Nat) (B : Option Addr) (b : Nat) (C : Option Addr) (c : Nat) (es fs gs : List Nat) (w : World) (hX : Fl32 w XA xs) (hY : Fl32 w XB ys) (fA : Fl32 w A es) (fB : Fl32 w B fs) (fC : Fl32 w C gs) (hx : xs.length ≤ 1048576) (hy : ys.length ≤ 1048576) (he : es.length ≤ 1048576) (hf : fs.length ≤ 1048576) (hg : gs.length ≤ 1048576) (hv : sheetV wN hN xs ys = true) :
    Calls Try.prog 26 #[.agg #[.int .i64 wN, .int .i64 hN, .bool wrap, .slice XA xs.length xa, .slice XB ys.length xb], .agg #[.slice A es.length a, .slice B fs.length b, .slice C gs.length c]] w (Gives (fun v _ => v = .bool (fitsN wN hN wrap es fs gs)) w) := by
  have hB0 : Below w.heap.size w ((w.alloc (Obj.cells #[.int .i64 wN, .int .i64 hN, .bool wrap, .slice XA xs.length xa, .slice XB ys.length xb] 27)).alloc (Obj.cells #[.slice A es.length a, .slice B fs.length b, .slice C gs.length c] 35)) := ((Below.refl _ _).alloc (Nat.le_refl _) _).alloc (by simp) _
  have H := hide0 (c_implValid wN hN wrap XA xa XB xb xs ys _ (hX.keep hB0 (Nat.le_refl _)) (hY.keep hB0 (Nat.le_refl _)) hx hy)
  have hsd : sidesV wN hN = true := by
    unfold sheetV at hv
    simp only [Bool.and_eq_true] at hv
    exact hv.1
  rw [hv] at H
  obtain ⟨b1, b2, b3, b4⟩ := sides_iff.1 hsd
  have a1 : 3 ≤ wN := by omega
  have a2 : wN ≤ 16 := by omega
  have a3 : 3 ≤ hN := by omega
  have a4 : hN ≤ 16 := by omega
  have hle := cells_le a2 a4
  have m1 : 0 ≤ (wN : Int) * hN := by omega
  have m2 : (wN : Int) * hN ≤ 256 := by rw [← Int.natCast_mul]; omega
  have hw : IntKind.i64.wrap ((wN : Int) * hN) = (wN : Int) * hN := IntWalk.i64_in _ (by omega)
  have HB := hide0 hB0
  have FA := hide0 fA
  have FB' := hide0 fB
  have FC := hide0 fC
  clear hB0 hv hX hY hsd b1 b2 b3 b4 fA fB fC
  by_cases l1 : es.length = wN * hN
  · by_cases l2 : fs.length = wN * hN
    · by_cases l3 : gs.length = wN * hN
      · have H1' := hide0 l1
        have H2' := hide0 l2
        have H3' := hide0 l3
        have t1 : ((es.length : Int) != (wN : Int) * hN) = false := by simp; omega
        have t2 : ((fs.length : Int) != (wN : Int) * hN) = false := by simp; omega
        have t3 : ((gs.length : Int) != (wN : Int) * hN) = false := by simp; omega
        have HLE := hide0 hle
        clear l1 l2 l3 hle
        cases wrap
        · have hpos : 0 < wN * hN := Nat.mul_pos (by omega) (by omega)
          obtain ⟨bA, oA, rfl, lA, cA⟩ := FA.out.of_pos (by rw [H1'.out]; exact hpos)
          obtain ⟨bB, oB, rfl, lB, cB⟩ := FB'.out.of_pos (by rw [H2'.out]; exact hpos)
          obtain ⟨bC, oC, rfl, lC, cC⟩ := FC.out.of_pos (by rw [H3'.out]; exact hpos)
          have KA := hide0 cA
          have KB := hide0 cB
          have KC := hide0 cC
          clear cA cB cC hpos FA FB' FC
          go_enter Try.func26, Try.ntmps26
          go_wp2_with fail
          go_at_call 12
          refine Calls.mono H.out ?_
          rintro e w1 ⟨rfl, hB1⟩
          obtain ⟨hc, hfz⟩ := bcell hB1
          have k1 : w.heap.size + 1 < w1.heap.size := by have := hB1.size; simp at this; omega
          have HB1 := hide0 (HB.out.trans (hB1.mono HB.out.size))
          have HB0 := hide0 hB1
          clear hB1
          go_wp2_with fail
          have G : Hid (Below w.heap.size w w1 ∧ w.heap.size + 1 < w1.heap.size ∧ w1.heap[w.heap.size]? = some (Obj.cells #[.int .i64 wN, .int .i64 hN, .bool false, .slice XA xs.length xa, .slice XB ys.length xb] 27 (0, 0)) ∧ w1.heap[w.heap.size + 1]? = some (Obj.cells #[.slice (some ⟨bA, oA, none⟩) es.length a, .slice (some ⟨bB, oB, none⟩) fs.length b, .slice (some ⟨bC, oC, none⟩) gs.length c] 35 (0, 0))) := ⟨HB1.out, k1, (HB0.out.block _ (by first | (simp; done) | (simp; omega))).trans (heap_one w _ _), (HB0.out.block _ (by first | (simp; done) | (simp; omega))).trans (heap_two w _ _)⟩
          clear HB0 HB1 hc hfz k1 t1 t2 t3 hw H
          go_loopw [41] (fun q wr => ∃ i : Nat, i ≤ wN * hN ∧ q = .int .i64 i ∧ (∀ j, j < i → badI wN hN es fs gs j = false) ∧ Below w.heap.size w wr ∧ w.heap.size + 1 < wr.heap.size ∧ wr.heap[w.heap.size]? = some (Obj.cells #[.int .i64 wN, .int .i64 hN, .bool false, .slice XA xs.length xa, .slice XB ys.length xb] 27 (0, 0)) ∧ wr.heap[w.heap.size + 1]? = some (Obj.cells #[.slice (some ⟨bA, oA, none⟩) es.length a, .slice (some ⟨bB, oB, none⟩) fs.length b, .slice (some ⟨bC, oC, none⟩) gs.length c] 35 (0, 0))) (fun q _ => wN * hN - (intOf q).toNat)
          case atStart => exact ⟨0, Nat.zero_le _, rfl, fun j hj => absurd hj (Nat.not_lt_zero _), G.out⟩
          case round =>
            obtain ⟨i, hi, rfl, hok, gB, k1, gS, gF⟩ := hrel
            clear G
            have HO := hide0 hok
            have HGB := hide0 gB
            have k0 : w.heap.size < wr.heap.size := Nat.lt_of_succ_lt k1
            have HGS := hide0 gS
            have HGF := hide0 gF
            have y0 : wr.cell? ⟨w.heap.size, 0, none⟩ = some (.int .i64 wN) := box_cell gS 0 _ rfl
            have y1 : wr.cell? ⟨w.heap.size, 1, none⟩ = some (.int .i64 hN) := box_cell gS 1 _ rfl
            have y2 : wr.cell? ⟨w.heap.size, 2, none⟩ = some (.bool false) := box_cell gS 2 _ rfl
            have y3 : wr.cell? ⟨w.heap.size, 3, none⟩ = some (.slice XA xs.length xa) := box_cell gS 3 _ rfl
            have y4 : wr.cell? ⟨w.heap.size, 4, none⟩ = some (.slice XB ys.length xb) := box_cell gS 4 _ rfl
            have z0 : wr.cell? ⟨w.heap.size + 1, 0, none⟩ = some (.slice (some ⟨bA, oA, none⟩) es.length a) := box_cell gF 0 _ rfl
            have z1 : wr.cell? ⟨w.heap.size + 1, 1, none⟩ = some (.slice (some ⟨bB, oB, none⟩) fs.length b) := box_cell gF 1 _ rfl
            have z2 : wr.cell? ⟨w.heap.size + 1, 2, none⟩ = some (.slice (some ⟨bC, oC, none⟩) gs.length c) := box_cell gF 2 _ rfl
            clear hok gB gS gF
            by_cases hlt : i < wN * hN
            · have hltI : (i : Int) < (wN : Int) * hN := by rw [← Int.natCast_mul]; omega
              have hi256 : (i : Int) < 256 := by omega
              have hbi : badI wN hN es fs gs i = badAt wN hN (i % wN) (i / wN) (es.getD i 0) (fs.getD i 0) (gs.getD i 0) := rfl
              have i1 : (i : Int) < es.length := by rw [H1'.out]; omega
              have i2 : (i : Int) < fs.length := by rw [H2'.out]; omega
              have i3 : (i : Int) < gs.length := by rw [H3'.out]; omega
              have kA : wr.cell? ⟨bA, oA + i, none⟩ = some (.float .f32 (es.getD i 0)) := (HGB.out.cell (p := ⟨bA, oA + i, none⟩) lA).trans (KA.out i (by rw [H1'.out]; exact hlt))
              have kB : wr.cell? ⟨bB, oB + i, none⟩ = some (.float .f32 (fs.getD i 0)) := (HGB.out.cell (p := ⟨bB, oB + i, none⟩) lB).trans (KB.out i (by rw [H2'.out]; exact hlt))
              have kC : wr.cell? ⟨bC, oC + i, none⟩ = some (.float .f32 (gs.getD i 0)) := (HGB.out.cell (p := ⟨bC, oC + i, none⟩) lC).trans (KC.out i (by rw [H3'.out]; exact hlt))
              have e1 : ((i : Int).tmod (wN : Int)) = ((i % wN : Nat) : Int) := (Int.ofNat_tmod i wN).symm
              have e2 : ((i : Int).tdiv (wN : Int)) = ((i / wN : Nat) : Int) := (Int.ofNat_tdiv i wN).symm
              have hxlt : i % wN < wN := Nat.mod_lt _ (by omega)
              have hylt : i / wN < hN := Nat.div_lt_of_lt_mul hlt
              have hw0 : ((wN : Int) == 0) = false := by simp; omega
              have HBI := hide0 hbi
              have LA : bA < wr.heap.size := Nat.lt_of_lt_of_le lA HGB.out.size
              have LB : bB < wr.heap.size := Nat.lt_of_lt_of_le lB HGB.out.size
              have LC : bC < wr.heap.size := Nat.lt_of_lt_of_le lC HGB.out.size
              have HL := hide0 hlt
              clear hbi
              generalize es.getD i 0 = ve at kA HBI
              generalize fs.getD i 0 = vf at kB HBI
              generalize gs.getD i 0 = vg at kC HBI
              generalize i % wN = m at *
              generalize i / wN = k at *
              have BK := hide0 (fun W => c_isBorder wN hN m k XA xa XB xb xs.length ys.length W a1 a2 a3 a4)
              cases hb : bordN wN hN m k
              · rw [hb] at BK
                by_cases hyk : k + 1 = hN
                · have b2 : ((k : Int) == (hN : Int) - 1) = true := by simp; omega
                  cases hnf : nz vf
                  · have q2 : (FloatKind.f32.format.order vf 0 != some .eq) = false := hnf
                    by_cases hxm : m + 1 = wN
                    · have b3 : ((m : Int) == (wN : Int) - 1) = true := by simp; omega
                      cases hng : nz vg
                      · have q3 : (FloatKind.f32.format.order vg 0 != some .eq) = false := hng
                        have hbv : badI wN hN es fs gs i = false := by rw [HBI.out]; unfold badAt; simp [hb, hyk, hnf, hxm, hng]
                        have HV := hide0 hbv
                        clear hbv hb hyk hnf hxm hng
                        go_wp2_with fail
                        go_quiet (fail)
                        go_wp2_with fail
                        go_at_call 45
                        refine (BK.out _).mono ?_
                        rintro e w2 ⟨rfl, hB2⟩
                        have u0 : w2.cell? ⟨w.heap.size, 0, none⟩ = some (.int .i64 wN) := (hB2.cell (p := ⟨w.heap.size, 0, none⟩) k0).trans y0
                        have u1 : w2.cell? ⟨w.heap.size, 1, none⟩ = some (.int .i64 hN) := (hB2.cell (p := ⟨w.heap.size, 1, none⟩) k0).trans y1
                        have v0 : w2.cell? ⟨w.heap.size + 1, 0, none⟩ = some (.slice (some ⟨bA, oA, none⟩) es.length a) := (hB2.cell (p := ⟨w.heap.size + 1, 0, none⟩) k1).trans z0
                        have r0 := (hB2.cell (p := ⟨bA, oA + i, none⟩) LA).trans kA
                        have v1 : w2.cell? ⟨w.heap.size + 1, 1, none⟩ = some (.slice (some ⟨bB, oB, none⟩) fs.length b) := (hB2.cell (p := ⟨w.heap.size + 1, 1, none⟩) k1).trans z1
                        have r1 := (hB2.cell (p := ⟨bB, oB + i, none⟩) LB).trans kB
                        have v2 : w2.cell? ⟨w.heap.size + 1, 2, none⟩ = some (.slice (some ⟨bC, oC, none⟩) gs.length c) := (hB2.cell (p := ⟨w.heap.size + 1, 2, none⟩) k1).trans z2
                        have r2 := (hB2.cell (p := ⟨bC, oC + i, none⟩) LC).trans kC
                        have k2 : w.heap.size + 1 < w2.heap.size := Nat.lt_of_lt_of_le k1 hB2.size
                        have HB2 := hide0 hB2
                        clear hB2 e1 e2
                        go_wp2_with fail
                        go_roundw
                        case rel =>
                          refine ⟨i + 1, by have := HL.out; omega, by go_num, fun j hj => ?_, (below_n HGB.out _).trans (HB2.out.mono (below_n HGB.out _).size), k2, (HB2.out.block _ (Nat.lt_of_succ_lt k1)).trans HGS.out, (HB2.out.block _ k1).trans HGF.out⟩
                          by_cases hji : j = i
                          · rw [hji]; exact HV.out
                          · exact HO.out j (by omega)
                        case measure => have := HL.out; simp [intOf]; omega
                      · have q3 : (FloatKind.f32.format.order vg 0 != some .eq) = true := hng
                        have hbv : badI wN hN es fs gs i = true := by rw [HBI.out]; unfold badAt; simp [hb, hyk, hnf, hxm, hng]
                        have HV := hide0 (fits_bad HL.out hbv)
                        clear hbv hb hyk hnf hxm hng
                        go_wp2_with fail
                        go_quiet (fail)
                        go_wp2_with fail
                        go_at_call 45
                        refine (BK.out _).mono ?_
                        rintro e w2 ⟨rfl, hB2⟩
                        have u0 : w2.cell? ⟨w.heap.size, 0, none⟩ = some (.int .i64 wN) := (hB2.cell (p := ⟨w.heap.size, 0, none⟩) k0).trans y0
                        have u1 : w2.cell? ⟨w.heap.size, 1, none⟩ = some (.int .i64 hN) := (hB2.cell (p := ⟨w.heap.size, 1, none⟩) k0).trans y1
                        have v0 : w2.cell? ⟨w.heap.size + 1, 0, none⟩ = some (.slice (some ⟨bA, oA, none⟩) es.length a) := (hB2.cell (p := ⟨w.heap.size + 1, 0, none⟩) k1).trans z0
                        have r0 := (hB2.cell (p := ⟨bA, oA + i, none⟩) LA).trans kA
                        have v1 : w2.cell? ⟨w.heap.size + 1, 1, none⟩ = some (.slice (some ⟨bB, oB, none⟩) fs.length b) := (hB2.cell (p := ⟨w.heap.size + 1, 1, none⟩) k1).trans z1
                        have r1 := (hB2.cell (p := ⟨bB, oB + i, none⟩) LB).trans kB
                        have v2 : w2.cell? ⟨w.heap.size + 1, 2, none⟩ = some (.slice (some ⟨bC, oC, none⟩) gs.length c) := (hB2.cell (p := ⟨w.heap.size + 1, 2, none⟩) k1).trans z2
                        have r2 := (hB2.cell (p := ⟨bC, oC + i, none⟩) LC).trans kC
                        have k2 : w.heap.size + 1 < w2.heap.size := Nat.lt_of_lt_of_le k1 hB2.size
                        have HB2 := hide0 hB2
                        clear hB2 e1 e2
                        go_wp2_with fail
                        go_ret
                        exact ⟨(below_n HGB.out _).trans (HB2.out.mono (below_n HGB.out _).size), _, rfl, by rw [HV.out] <;> rfl⟩
                    · have b3 : ((m : Int) == (wN : Int) - 1) = false := by simp; omega
                      have hbv : badI wN hN es fs gs i = false := by rw [HBI.out]; unfold badAt; simp [hb, hyk, hnf, hxm]
                      have HV := hide0 hbv
                      clear hbv hb hyk hnf hxm
                      go_wp2_with fail
                      go_quiet (fail)
                      go_wp2_with fail
                      go_at_call 45
                      refine (BK.out _).mono ?_
                      rintro e w2 ⟨rfl, hB2⟩
                      have u0 : w2.cell? ⟨w.heap.size, 0, none⟩ = some (.int .i64 wN) := (hB2.cell (p := ⟨w.heap.size, 0, none⟩) k0).trans y0
                      have u1 : w2.cell? ⟨w.heap.size, 1, none⟩ = some (.int .i64 hN) := (hB2.cell (p := ⟨w.heap.size, 1, none⟩) k0).trans y1
                      have v0 : w2.cell? ⟨w.heap.size + 1, 0, none⟩ = some (.slice (some ⟨bA, oA, none⟩) es.length a) := (hB2.cell (p := ⟨w.heap.size + 1, 0, none⟩) k1).trans z0
                      have r0 := (hB2.cell (p := ⟨bA, oA + i, none⟩) LA).trans kA
                      have v1 : w2.cell? ⟨w.heap.size + 1, 1, none⟩ = some (.slice (some ⟨bB, oB, none⟩) fs.length b) := (hB2.cell (p := ⟨w.heap.size + 1, 1, none⟩) k1).trans z1
                      have r1 := (hB2.cell (p := ⟨bB, oB + i, none⟩) LB).trans kB
                      have v2 : w2.cell? ⟨w.heap.size + 1, 2, none⟩ = some (.slice (some ⟨bC, oC, none⟩) gs.length c) := (hB2.cell (p := ⟨w.heap.size + 1, 2, none⟩) k1).trans z2
                      have r2 := (hB2.cell (p := ⟨bC, oC + i, none⟩) LC).trans kC
                      have k2 : w.heap.size + 1 < w2.heap.size := Nat.lt_of_lt_of_le k1 hB2.size
                      have HB2 := hide0 hB2
                      clear hB2 e1 e2
                      go_wp2_with fail
                      go_roundw
                      case rel =>
                        refine ⟨i + 1, by have := HL.out; omega, by go_num, fun j hj => ?_, (below_n HGB.out _).trans (HB2.out.mono (below_n HGB.out _).size), k2, (HB2.out.block _ (Nat.lt_of_succ_lt k1)).trans HGS.out, (HB2.out.block _ k1).trans HGF.out⟩
                        by_cases hji : j = i
                        · rw [hji]; exact HV.out
                        · exact HO.out j (by omega)
                      case measure => have := HL.out; simp [intOf]; omega
                  · have q2 : (FloatKind.f32.format.order vf 0 != some .eq) = true := hnf
                    have hbv : badI wN hN es fs gs i = true := by rw [HBI.out]; unfold badAt; simp [hb, hyk, hnf]
                    have HV := hide0 (fits_bad HL.out hbv)
                    clear hbv hb hyk hnf
                    go_wp2_with fail
                    go_quiet (fail)
                    go_wp2_with fail
                    go_at_call 45
                    refine (BK.out _).mono ?_
                    rintro e w2 ⟨rfl, hB2⟩
                    have u0 : w2.cell? ⟨w.heap.size, 0, none⟩ = some (.int .i64 wN) := (hB2.cell (p := ⟨w.heap.size, 0, none⟩) k0).trans y0
                    have u1 : w2.cell? ⟨w.heap.size, 1, none⟩ = some (.int .i64 hN) := (hB2.cell (p := ⟨w.heap.size, 1, none⟩) k0).trans y1
                    have v0 : w2.cell? ⟨w.heap.size + 1, 0, none⟩ = some (.slice (some ⟨bA, oA, none⟩) es.length a) := (hB2.cell (p := ⟨w.heap.size + 1, 0, none⟩) k1).trans z0
                    have r0 := (hB2.cell (p := ⟨bA, oA + i, none⟩) LA).trans kA
                    have v1 : w2.cell? ⟨w.heap.size + 1, 1, none⟩ = some (.slice (some ⟨bB, oB, none⟩) fs.length b) := (hB2.cell (p := ⟨w.heap.size + 1, 1, none⟩) k1).trans z1
                    have r1 := (hB2.cell (p := ⟨bB, oB + i, none⟩) LB).trans kB
                    have v2 : w2.cell? ⟨w.heap.size + 1, 2, none⟩ = some (.slice (some ⟨bC, oC, none⟩) gs.length c) := (hB2.cell (p := ⟨w.heap.size + 1, 2, none⟩) k1).trans z2
                    have r2 := (hB2.cell (p := ⟨bC, oC + i, none⟩) LC).trans kC
                    have k2 : w.heap.size + 1 < w2.heap.size := Nat.lt_of_lt_of_le k1 hB2.size
                    have HB2 := hide0 hB2
                    clear hB2 e1 e2
                    go_wp2_with fail
                    go_ret
                    exact ⟨(below_n HGB.out _).trans (HB2.out.mono (below_n HGB.out _).size), _, rfl, by rw [HV.out] <;> rfl⟩
                · have b2 : ((k : Int) == (hN : Int) - 1) = false := by simp; omega
                  by_cases hxm : m + 1 = wN
                  · have b3 : ((m : Int) == (wN : Int) - 1) = true := by simp; omega
                    cases hng : nz vg
                    · have q3 : (FloatKind.f32.format.order vg 0 != some .eq) = false := hng
                      have hbv : badI wN hN es fs gs i = false := by rw [HBI.out]; unfold badAt; simp [hb, hyk, hxm, hng]
                      have HV := hide0 hbv
                      clear hbv hb hyk hxm hng
                      go_wp2_with fail
                      go_quiet (fail)
                      go_wp2_with fail
                      go_at_call 45
                      refine (BK.out _).mono ?_
                      rintro e w2 ⟨rfl, hB2⟩
                      have u0 : w2.cell? ⟨w.heap.size, 0, none⟩ = some (.int .i64 wN) := (hB2.cell (p := ⟨w.heap.size, 0, none⟩) k0).trans y0
                      have u1 : w2.cell? ⟨w.heap.size, 1, none⟩ = some (.int .i64 hN) := (hB2.cell (p := ⟨w.heap.size, 1, none⟩) k0).trans y1
                      have v0 : w2.cell? ⟨w.heap.size + 1, 0, none⟩ = some (.slice (some ⟨bA, oA, none⟩) es.length a) := (hB2.cell (p := ⟨w.heap.size + 1, 0, none⟩) k1).trans z0
                      have r0 := (hB2.cell (p := ⟨bA, oA + i, none⟩) LA).trans kA
                      have v1 : w2.cell? ⟨w.heap.size + 1, 1, none⟩ = some (.slice (some ⟨bB, oB, none⟩) fs.length b) := (hB2.cell (p := ⟨w.heap.size + 1, 1, none⟩) k1).trans z1
                      have r1 := (hB2.cell (p := ⟨bB, oB + i, none⟩) LB).trans kB
                      have v2 : w2.cell? ⟨w.heap.size + 1, 2, none⟩ = some (.slice (some ⟨bC, oC, none⟩) gs.length c) := (hB2.cell (p := ⟨w.heap.size + 1, 2, none⟩) k1).trans z2
                      have r2 := (hB2.cell (p := ⟨bC, oC + i, none⟩) LC).trans kC
                      have k2 : w.heap.size + 1 < w2.heap.size := Nat.lt_of_lt_of_le k1 hB2.size
                      have HB2 := hide0 hB2
                      clear hB2 e1 e2
                      go_wp2_with fail
                      go_roundw
                      case rel =>
                        refine ⟨i + 1, by have := HL.out; omega, by go_num, fun j hj => ?_, (below_n HGB.out _).trans (HB2.out.mono (below_n HGB.out _).size), k2, (HB2.out.block _ (Nat.lt_of_succ_lt k1)).trans HGS.out, (HB2.out.block _ k1).trans HGF.out⟩
                        by_cases hji : j = i
                        · rw [hji]; exact HV.out
                        · exact HO.out j (by omega)
                      case measure => have := HL.out; simp [intOf]; omega
                    · have q3 : (FloatKind.f32.format.order vg 0 != some .eq) = true := hng
                      have hbv : badI wN hN es fs gs i = true := by rw [HBI.out]; unfold badAt; simp [hb, hyk, hxm, hng]
                      have HV := hide0 (fits_bad HL.out hbv)
                      clear hbv hb hyk hxm hng
                      go_wp2_with fail
                      go_quiet (fail)
                      go_wp2_with fail
                      go_at_call 45
                      refine (BK.out _).mono ?_
                      rintro e w2 ⟨rfl, hB2⟩
                      have u0 : w2.cell? ⟨w.heap.size, 0, none⟩ = some (.int .i64 wN) := (hB2.cell (p := ⟨w.heap.size, 0, none⟩) k0).trans y0
                      have u1 : w2.cell? ⟨w.heap.size, 1, none⟩ = some (.int .i64 hN) := (hB2.cell (p := ⟨w.heap.size, 1, none⟩) k0).trans y1
                      have v0 : w2.cell? ⟨w.heap.size + 1, 0, none⟩ = some (.slice (some ⟨bA, oA, none⟩) es.length a) := (hB2.cell (p := ⟨w.heap.size + 1, 0, none⟩) k1).trans z0
                      have r0 := (hB2.cell (p := ⟨bA, oA + i, none⟩) LA).trans kA
                      have v1 : w2.cell? ⟨w.heap.size + 1, 1, none⟩ = some (.slice (some ⟨bB, oB, none⟩) fs.length b) := (hB2.cell (p := ⟨w.heap.size + 1, 1, none⟩) k1).trans z1
                      have r1 := (hB2.cell (p := ⟨bB, oB + i, none⟩) LB).trans kB
                      have v2 : w2.cell? ⟨w.heap.size + 1, 2, none⟩ = some (.slice (some ⟨bC, oC, none⟩) gs.length c) := (hB2.cell (p := ⟨w.heap.size + 1, 2, none⟩) k1).trans z2
                      have r2 := (hB2.cell (p := ⟨bC, oC + i, none⟩) LC).trans kC
                      have k2 : w.heap.size + 1 < w2.heap.size := Nat.lt_of_lt_of_le k1 hB2.size
                      have HB2 := hide0 hB2
                      clear hB2 e1 e2
                      go_wp2_with fail
                      go_ret
                      exact ⟨(below_n HGB.out _).trans (HB2.out.mono (below_n HGB.out _).size), _, rfl, by rw [HV.out] <;> rfl⟩
                  · have b3 : ((m : Int) == (wN : Int) - 1) = false := by simp; omega
                    have hbv : badI wN hN es fs gs i = false := by rw [HBI.out]; unfold badAt; simp [hb, hyk, hxm]
                    have HV := hide0 hbv
                    clear hbv hb hyk hxm
                    go_wp2_with fail
                    go_quiet (fail)
                    go_wp2_with fail
                    go_at_call 45
                    refine (BK.out _).mono ?_
                    rintro e w2 ⟨rfl, hB2⟩
                    have u0 : w2.cell? ⟨w.heap.size, 0, none⟩ = some (.int .i64 wN) := (hB2.cell (p := ⟨w.heap.size, 0, none⟩) k0).trans y0
                    have u1 : w2.cell? ⟨w.heap.size, 1, none⟩ = some (.int .i64 hN) := (hB2.cell (p := ⟨w.heap.size, 1, none⟩) k0).trans y1
                    have v0 : w2.cell? ⟨w.heap.size + 1, 0, none⟩ = some (.slice (some ⟨bA, oA, none⟩) es.length a) := (hB2.cell (p := ⟨w.heap.size + 1, 0, none⟩) k1).trans z0
                    have r0 := (hB2.cell (p := ⟨bA, oA + i, none⟩) LA).trans kA
                    have v1 : w2.cell? ⟨w.heap.size + 1, 1, none⟩ = some (.slice (some ⟨bB, oB, none⟩) fs.length b) := (hB2.cell (p := ⟨w.heap.size + 1, 1, none⟩) k1).trans z1
                    have r1 := (hB2.cell (p := ⟨bB, oB + i, none⟩) LB).trans kB
                    have v2 : w2.cell? ⟨w.heap.size + 1, 2, none⟩ = some (.slice (some ⟨bC, oC, none⟩) gs.length c) := (hB2.cell (p := ⟨w.heap.size + 1, 2, none⟩) k1).trans z2
                    have r2 := (hB2.cell (p := ⟨bC, oC + i, none⟩) LC).trans kC
                    have k2 : w.heap.size + 1 < w2.heap.size := Nat.lt_of_lt_of_le k1 hB2.size
                    have HB2 := hide0 hB2
                    clear hB2 e1 e2
                    go_wp2_with fail
                    go_roundw
                    case rel =>
                      refine ⟨i + 1, by have := HL.out; omega, by go_num, fun j hj => ?_, (below_n HGB.out _).trans (HB2.out.mono (below_n HGB.out _).size), k2, (HB2.out.block _ (Nat.lt_of_succ_lt k1)).trans HGS.out, (HB2.out.block _ k1).trans HGF.out⟩
                      by_cases hji : j = i
                      · rw [hji]; exact HV.out
                      · exact HO.out j (by omega)
                    case measure => have := HL.out; simp [intOf]; omega
              · rw [hb] at BK
                cases hne : nz ve
                · have q1 : (FloatKind.f32.format.order ve 0 != some .eq) = false := hne
                  by_cases hyk : k + 1 = hN
                  · have b2 : ((k : Int) == (hN : Int) - 1) = true := by simp; omega
                    cases hnf : nz vf
                    · have q2 : (FloatKind.f32.format.order vf 0 != some .eq) = false := hnf
                      by_cases hxm : m + 1 = wN
                      · have b3 : ((m : Int) == (wN : Int) - 1) = true := by simp; omega
                        cases hng : nz vg
                        · have q3 : (FloatKind.f32.format.order vg 0 != some .eq) = false := hng
                          have hbv : badI wN hN es fs gs i = false := by rw [HBI.out]; unfold badAt; simp [hb, hne, hyk, hnf, hxm, hng]
                          have HV := hide0 hbv
                          clear hbv hb hne hyk hnf hxm hng
                          go_wp2_with fail
                          go_quiet (fail)
                          go_wp2_with fail
                          go_at_call 45
                          refine (BK.out _).mono ?_
                          rintro e w2 ⟨rfl, hB2⟩
                          have u0 : w2.cell? ⟨w.heap.size, 0, none⟩ = some (.int .i64 wN) := (hB2.cell (p := ⟨w.heap.size, 0, none⟩) k0).trans y0
                          have u1 : w2.cell? ⟨w.heap.size, 1, none⟩ = some (.int .i64 hN) := (hB2.cell (p := ⟨w.heap.size, 1, none⟩) k0).trans y1
                          have v0 : w2.cell? ⟨w.heap.size + 1, 0, none⟩ = some (.slice (some ⟨bA, oA, none⟩) es.length a) := (hB2.cell (p := ⟨w.heap.size + 1, 0, none⟩) k1).trans z0
                          have r0 := (hB2.cell (p := ⟨bA, oA + i, none⟩) LA).trans kA
                          have v1 : w2.cell? ⟨w.heap.size + 1, 1, none⟩ = some (.slice (some ⟨bB, oB, none⟩) fs.length b) := (hB2.cell (p := ⟨w.heap.size + 1, 1, none⟩) k1).trans z1
                          have r1 := (hB2.cell (p := ⟨bB, oB + i, none⟩) LB).trans kB
                          have v2 : w2.cell? ⟨w.heap.size + 1, 2, none⟩ = some (.slice (some ⟨bC, oC, none⟩) gs.length c) := (hB2.cell (p := ⟨w.heap.size + 1, 2, none⟩) k1).trans z2
                          have r2 := (hB2.cell (p := ⟨bC, oC + i, none⟩) LC).trans kC
                          have k2 : w.heap.size + 1 < w2.heap.size := Nat.lt_of_lt_of_le k1 hB2.size
                          have HB2 := hide0 hB2
                          clear hB2 e1 e2
                          go_wp2_with fail
                          go_roundw
                          case rel =>
                            refine ⟨i + 1, by have := HL.out; omega, by go_num, fun j hj => ?_, (below_n HGB.out _).trans (HB2.out.mono (below_n HGB.out _).size), k2, (HB2.out.block _ (Nat.lt_of_succ_lt k1)).trans HGS.out, (HB2.out.block _ k1).trans HGF.out⟩
                            by_cases hji : j = i
                            · rw [hji]; exact HV.out
                            · exact HO.out j (by omega)
                          case measure => have := HL.out; simp [intOf]; omega
                        · have q3 : (FloatKind.f32.format.order vg 0 != some .eq) = true := hng
                          have hbv : badI wN hN es fs gs i = true := by rw [HBI.out]; unfold badAt; simp [hb, hne, hyk, hnf, hxm, hng]
                          have HV := hide0 (fits_bad HL.out hbv)
                          clear hbv hb hne hyk hnf hxm hng
                          go_wp2_with fail
                          go_quiet (fail)
                          go_wp2_with fail
                          go_at_call 45
                          refine (BK.out _).mono ?_
                          rintro e w2 ⟨rfl, hB2⟩
                          have u0 : w2.cell? ⟨w.heap.size, 0, none⟩ = some (.int .i64 wN) := (hB2.cell (p := ⟨w.heap.size, 0, none⟩) k0).trans y0
                          have u1 : w2.cell? ⟨w.heap.size, 1, none⟩ = some (.int .i64 hN) := (hB2.cell (p := ⟨w.heap.size, 1, none⟩) k0).trans y1
                          have v0 : w2.cell? ⟨w.heap.size + 1, 0, none⟩ = some (.slice (some ⟨bA, oA, none⟩) es.length a) := (hB2.cell (p := ⟨w.heap.size + 1, 0, none⟩) k1).trans z0
                          have r0 := (hB2.cell (p := ⟨bA, oA + i, none⟩) LA).trans kA
                          have v1 : w2.cell? ⟨w.heap.size + 1, 1, none⟩ = some (.slice (some ⟨bB, oB, none⟩) fs.length b) := (hB2.cell (p := ⟨w.heap.size + 1, 1, none⟩) k1).trans z1
                          have r1 := (hB2.cell (p := ⟨bB, oB + i, none⟩) LB).trans kB
                          have v2 : w2.cell? ⟨w.heap.size + 1, 2, none⟩ = some (.slice (some ⟨bC, oC, none⟩) gs.length c) := (hB2.cell (p := ⟨w.heap.size + 1, 2, none⟩) k1).trans z2
                          have r2 := (hB2.cell (p := ⟨bC, oC + i, none⟩) LC).trans kC
                          have k2 : w.heap.size + 1 < w2.heap.size := Nat.lt_of_lt_of_le k1 hB2.size
                          have HB2 := hide0 hB2
                          clear hB2 e1 e2
                          go_wp2_with fail
                          go_ret
                          exact ⟨(below_n HGB.out _).trans (HB2.out.mono (below_n HGB.out _).size), _, rfl, by rw [HV.out] <;> rfl⟩
                      · have b3 : ((m : Int) == (wN : Int) - 1) = false := by simp; omega
                        have hbv : badI wN hN es fs gs i = false := by rw [HBI.out]; unfold badAt; simp [hb, hne, hyk, hnf, hxm]
                        have HV := hide0 hbv
                        clear hbv hb hne hyk hnf hxm
                        go_wp2_with fail
                        go_quiet (fail)
                        go_wp2_with fail
                        go_at_call 45
                        refine (BK.out _).mono ?_
                        rintro e w2 ⟨rfl, hB2⟩
                        have u0 : w2.cell? ⟨w.heap.size, 0, none⟩ = some (.int .i64 wN) := (hB2.cell (p := ⟨w.heap.size, 0, none⟩) k0).trans y0
                        have u1 : w2.cell? ⟨w.heap.size, 1, none⟩ = some (.int .i64 hN) := (hB2.cell (p := ⟨w.heap.size, 1, none⟩) k0).trans y1
                        have v0 : w2.cell? ⟨w.heap.size + 1, 0, none⟩ = some (.slice (some ⟨bA, oA, none⟩) es.length a) := (hB2.cell (p := ⟨w.heap.size + 1, 0, none⟩) k1).trans z0
                        have r0 := (hB2.cell (p := ⟨bA, oA + i, none⟩) LA).trans kA
                        have v1 : w2.cell? ⟨w.heap.size + 1, 1, none⟩ = some (.slice (some ⟨bB, oB, none⟩) fs.length b) := (hB2.cell (p := ⟨w.heap.size + 1, 1, none⟩) k1).trans z1
                        have r1 := (hB2.cell (p := ⟨bB, oB + i, none⟩) LB).trans kB
                        have v2 : w2.cell? ⟨w.heap.size + 1, 2, none⟩ = some (.slice (some ⟨bC, oC, none⟩) gs.length c) := (hB2.cell (p := ⟨w.heap.size + 1, 2, none⟩) k1).trans z2
                        have r2 := (hB2.cell (p := ⟨bC, oC + i, none⟩) LC).trans kC
                        have k2 : w.heap.size + 1 < w2.heap.size := Nat.lt_of_lt_of_le k1 hB2.size
                        have HB2 := hide0 hB2
                        clear hB2 e1 e2
                        go_wp2_with fail
                        go_roundw
                        case rel =>
                          refine ⟨i + 1, by have := HL.out; omega, by go_num, fun j hj => ?_, (below_n HGB.out _).trans (HB2.out.mono (below_n HGB.out _).size), k2, (HB2.out.block _ (Nat.lt_of_succ_lt k1)).trans HGS.out, (HB2.out.block _ k1).trans HGF.out⟩
                          by_cases hji : j = i
                          · rw [hji]; exact HV.out
                          · exact HO.out j (by omega)
                        case measure => have := HL.out; simp [intOf]; omega
                    · have q2 : (FloatKind.f32.format.order vf 0 != some .eq) = true := hnf
                      have hbv : badI wN hN es fs gs i = true := by rw [HBI.out]; unfold badAt; simp [hb, hne, hyk, hnf]
                      have HV := hide0 (fits_bad HL.out hbv)
                      clear hbv hb hne hyk hnf
                      go_wp2_with fail
                      go_quiet (fail)
                      go_wp2_with fail
                      go_at_call 45
                      refine (BK.out _).mono ?_
                      rintro e w2 ⟨rfl, hB2⟩
                      have u0 : w2.cell? ⟨w.heap.size, 0, none⟩ = some (.int .i64 wN) := (hB2.cell (p := ⟨w.heap.size, 0, none⟩) k0).trans y0
                      have u1 : w2.cell? ⟨w.heap.size, 1, none⟩ = some (.int .i64 hN) := (hB2.cell (p := ⟨w.heap.size, 1, none⟩) k0).trans y1
                      have v0 : w2.cell? ⟨w.heap.size + 1, 0, none⟩ = some (.slice (some ⟨bA, oA, none⟩) es.length a) := (hB2.cell (p := ⟨w.heap.size + 1, 0, none⟩) k1).trans z0
                      have r0 := (hB2.cell (p := ⟨bA, oA + i, none⟩) LA).trans kA
                      have v1 : w2.cell? ⟨w.heap.size + 1, 1, none⟩ = some (.slice (some ⟨bB, oB, none⟩) fs.length b) := (hB2.cell (p := ⟨w.heap.size + 1, 1, none⟩) k1).trans z1
                      have r1 := (hB2.cell (p := ⟨bB, oB + i, none⟩) LB).trans kB
                      have v2 : w2.cell? ⟨w.heap.size + 1, 2, none⟩ = some (.slice (some ⟨bC, oC, none⟩) gs.length c) := (hB2.cell (p := ⟨w.heap.size + 1, 2, none⟩) k1).trans z2
                      have r2 := (hB2.cell (p := ⟨bC, oC + i, none⟩) LC).trans kC
                      have k2 : w.heap.size + 1 < w2.heap.size := Nat.lt_of_lt_of_le k1 hB2.size
                      have HB2 := hide0 hB2
                      clear hB2 e1 e2
                      go_wp2_with fail
                      go_ret
                      exact ⟨(below_n HGB.out _).trans (HB2.out.mono (below_n HGB.out _).size), _, rfl, by rw [HV.out] <;> rfl⟩
                  · have b2 : ((k : Int) == (hN : Int) - 1) = false := by simp; omega
                    by_cases hxm : m + 1 = wN
                    · have b3 : ((m : Int) == (wN : Int) - 1) = true := by simp; omega
                      cases hng : nz vg
                      · have q3 : (FloatKind.f32.format.order vg 0 != some .eq) = false := hng
                        have hbv : badI wN hN es fs gs i = false := by rw [HBI.out]; unfold badAt; simp [hb, hne, hyk, hxm, hng]
                        have HV := hide0 hbv
                        clear hbv hb hne hyk hxm hng
                        go_wp2_with fail
                        go_quiet (fail)
                        go_wp2_with fail
                        go_at_call 45
                        refine (BK.out _).mono ?_
                        rintro e w2 ⟨rfl, hB2⟩
                        have u0 : w2.cell? ⟨w.heap.size, 0, none⟩ = some (.int .i64 wN) := (hB2.cell (p := ⟨w.heap.size, 0, none⟩) k0).trans y0
                        have u1 : w2.cell? ⟨w.heap.size, 1, none⟩ = some (.int .i64 hN) := (hB2.cell (p := ⟨w.heap.size, 1, none⟩) k0).trans y1
                        have v0 : w2.cell? ⟨w.heap.size + 1, 0, none⟩ = some (.slice (some ⟨bA, oA, none⟩) es.length a) := (hB2.cell (p := ⟨w.heap.size + 1, 0, none⟩) k1).trans z0
                        have r0 := (hB2.cell (p := ⟨bA, oA + i, none⟩) LA).trans kA
                        have v1 : w2.cell? ⟨w.heap.size + 1, 1, none⟩ = some (.slice (some ⟨bB, oB, none⟩) fs.length b) := (hB2.cell (p := ⟨w.heap.size + 1, 1, none⟩) k1).trans z1
                        have r1 := (hB2.cell (p := ⟨bB, oB + i, none⟩) LB).trans kB
                        have v2 : w2.cell? ⟨w.heap.size + 1, 2, none⟩ = some (.slice (some ⟨bC, oC, none⟩) gs.length c) := (hB2.cell (p := ⟨w.heap.size + 1, 2, none⟩) k1).trans z2
                        have r2 := (hB2.cell (p := ⟨bC, oC + i, none⟩) LC).trans kC
                        have k2 : w.heap.size + 1 < w2.heap.size := Nat.lt_of_lt_of_le k1 hB2.size
                        have HB2 := hide0 hB2
                        clear hB2 e1 e2
                        go_wp2_with fail
                        go_roundw
                        case rel =>
                          refine ⟨i + 1, by have := HL.out; omega, by go_num, fun j hj => ?_, (below_n HGB.out _).trans (HB2.out.mono (below_n HGB.out _).size), k2, (HB2.out.block _ (Nat.lt_of_succ_lt k1)).trans HGS.out, (HB2.out.block _ k1).trans HGF.out⟩
                          by_cases hji : j = i
                          · rw [hji]; exact HV.out
                          · exact HO.out j (by omega)
                        case measure => have := HL.out; simp [intOf]; omega
                      · have q3 : (FloatKind.f32.format.order vg 0 != some .eq) = true := hng
                        have hbv : badI wN hN es fs gs i = true := by rw [HBI.out]; unfold badAt; simp [hb, hne, hyk, hxm, hng]
                        have HV := hide0 (fits_bad HL.out hbv)
                        clear hbv hb hne hyk hxm hng
                        go_wp2_with fail
                        go_quiet (fail)
                        go_wp2_with fail
                        go_at_call 45
                        refine (BK.out _).mono ?_
                        rintro e w2 ⟨rfl, hB2⟩
                        have u0 : w2.cell? ⟨w.heap.size, 0, none⟩ = some (.int .i64 wN) := (hB2.cell (p := ⟨w.heap.size, 0, none⟩) k0).trans y0
                        have u1 : w2.cell? ⟨w.heap.size, 1, none⟩ = some (.int .i64 hN) := (hB2.cell (p := ⟨w.heap.size, 1, none⟩) k0).trans y1
                        have v0 : w2.cell? ⟨w.heap.size + 1, 0, none⟩ = some (.slice (some ⟨bA, oA, none⟩) es.length a) := (hB2.cell (p := ⟨w.heap.size + 1, 0, none⟩) k1).trans z0
                        have r0 := (hB2.cell (p := ⟨bA, oA + i, none⟩) LA).trans kA
                        have v1 : w2.cell? ⟨w.heap.size + 1, 1, none⟩ = some (.slice (some ⟨bB, oB, none⟩) fs.length b) := (hB2.cell (p := ⟨w.heap.size + 1, 1, none⟩) k1).trans z1
                        have r1 := (hB2.cell (p := ⟨bB, oB + i, none⟩) LB).trans kB
                        have v2 : w2.cell? ⟨w.heap.size + 1, 2, none⟩ = some (.slice (some ⟨bC, oC, none⟩) gs.length c) := (hB2.cell (p := ⟨w.heap.size + 1, 2, none⟩) k1).trans z2
                        have r2 := (hB2.cell (p := ⟨bC, oC + i, none⟩) LC).trans kC
                        have k2 : w.heap.size + 1 < w2.heap.size := Nat.lt_of_lt_of_le k1 hB2.size
                        have HB2 := hide0 hB2
                        clear hB2 e1 e2
                        go_wp2_with fail
                        go_ret
                        exact ⟨(below_n HGB.out _).trans (HB2.out.mono (below_n HGB.out _).size), _, rfl, by rw [HV.out] <;> rfl⟩
                    · have b3 : ((m : Int) == (wN : Int) - 1) = false := by simp; omega
                      have hbv : badI wN hN es fs gs i = false := by rw [HBI.out]; unfold badAt; simp [hb, hne, hyk, hxm]
                      have HV := hide0 hbv
                      clear hbv hb hne hyk hxm
                      go_wp2_with fail
                      go_quiet (fail)
                      go_wp2_with fail
                      go_at_call 45
                      refine (BK.out _).mono ?_
                      rintro e w2 ⟨rfl, hB2⟩
                      have u0 : w2.cell? ⟨w.heap.size, 0, none⟩ = some (.int .i64 wN) := (hB2.cell (p := ⟨w.heap.size, 0, none⟩) k0).trans y0
                      have u1 : w2.cell? ⟨w.heap.size, 1, none⟩ = some (.int .i64 hN) := (hB2.cell (p := ⟨w.heap.size, 1, none⟩) k0).trans y1
                      have v0 : w2.cell? ⟨w.heap.size + 1, 0, none⟩ = some (.slice (some ⟨bA, oA, none⟩) es.length a) := (hB2.cell (p := ⟨w.heap.size + 1, 0, none⟩) k1).trans z0
                      have r0 := (hB2.cell (p := ⟨bA, oA + i, none⟩) LA).trans kA
                      have v1 : w2.cell? ⟨w.heap.size + 1, 1, none⟩ = some (.slice (some ⟨bB, oB, none⟩) fs.length b) := (hB2.cell (p := ⟨w.heap.size + 1, 1, none⟩) k1).trans z1
                      have r1 := (hB2.cell (p := ⟨bB, oB + i, none⟩) LB).trans kB
                      have v2 : w2.cell? ⟨w.heap.size + 1, 2, none⟩ = some (.slice (some ⟨bC, oC, none⟩) gs.length c) := (hB2.cell (p := ⟨w.heap.size + 1, 2, none⟩) k1).trans z2
                      have r2 := (hB2.cell (p := ⟨bC, oC + i, none⟩) LC).trans kC
                      have k2 : w.heap.size + 1 < w2.heap.size := Nat.lt_of_lt_of_le k1 hB2.size
                      have HB2 := hide0 hB2
                      clear hB2 e1 e2
                      go_wp2_with fail
                      go_roundw
                      case rel =>
                        refine ⟨i + 1, by have := HL.out; omega, by go_num, fun j hj => ?_, (below_n HGB.out _).trans (HB2.out.mono (below_n HGB.out _).size), k2, (HB2.out.block _ (Nat.lt_of_succ_lt k1)).trans HGS.out, (HB2.out.block _ k1).trans HGF.out⟩
                        by_cases hji : j = i
                        · rw [hji]; exact HV.out
                        · exact HO.out j (by omega)
                      case measure => have := HL.out; simp [intOf]; omega
                · have q1 : (FloatKind.f32.format.order ve 0 != some .eq) = true := hne
                  have hbv : badI wN hN es fs gs i = true := by rw [HBI.out]; unfold badAt; simp [hb, hne]
                  have HV := hide0 (fits_bad HL.out hbv)
                  clear hbv hb hne
                  go_wp2_with fail
                  go_quiet (fail)
                  go_wp2_with fail
                  go_at_call 45
                  refine (BK.out _).mono ?_
                  rintro e w2 ⟨rfl, hB2⟩
                  have u0 : w2.cell? ⟨w.heap.size, 0, none⟩ = some (.int .i64 wN) := (hB2.cell (p := ⟨w.heap.size, 0, none⟩) k0).trans y0
                  have u1 : w2.cell? ⟨w.heap.size, 1, none⟩ = some (.int .i64 hN) := (hB2.cell (p := ⟨w.heap.size, 1, none⟩) k0).trans y1
                  have v0 : w2.cell? ⟨w.heap.size + 1, 0, none⟩ = some (.slice (some ⟨bA, oA, none⟩) es.length a) := (hB2.cell (p := ⟨w.heap.size + 1, 0, none⟩) k1).trans z0
                  have r0 := (hB2.cell (p := ⟨bA, oA + i, none⟩) LA).trans kA
                  have v1 : w2.cell? ⟨w.heap.size + 1, 1, none⟩ = some (.slice (some ⟨bB, oB, none⟩) fs.length b) := (hB2.cell (p := ⟨w.heap.size + 1, 1, none⟩) k1).trans z1
                  have r1 := (hB2.cell (p := ⟨bB, oB + i, none⟩) LB).trans kB
                  have v2 : w2.cell? ⟨w.heap.size + 1, 2, none⟩ = some (.slice (some ⟨bC, oC, none⟩) gs.length c) := (hB2.cell (p := ⟨w.heap.size + 1, 2, none⟩) k1).trans z2
                  have r2 := (hB2.cell (p := ⟨bC, oC + i, none⟩) LC).trans kC
                  have k2 : w.heap.size + 1 < w2.heap.size := Nat.lt_of_lt_of_le k1 hB2.size
                  have HB2 := hide0 hB2
                  clear hB2 e1 e2
                  go_wp2_with fail
                  go_ret
                  exact ⟨(below_n HGB.out _).trans (HB2.out.mono (below_n HGB.out _).size), _, rfl, by rw [HV.out] <;> rfl⟩
            · obtain rfl : i = wN * hN := by omega
              have HV := hide0 (fits_ok H1'.out H2'.out H3'.out HO.out)
              have hltI : ¬ ((wN * hN : Nat) : Int) < (wN : Int) * hN := by rw [Int.natCast_mul]; omega
              go_wp2_with fail
              go_ret
              exact ⟨HGB.out, _, rfl, by rw [HV.out] <;> rfl⟩
        · have HV := hide0 (fits_wrap H1'.out H2'.out H3'.out)
          rw [HV.out]
          go_enter Try.func26, Try.ntmps26
          go_wp2_with fail
          go_at_call 12
          refine Calls.mono H.out ?_
          rintro e w1 ⟨rfl, hB1⟩
          obtain ⟨hc, hfz⟩ := bcell hB1
          have k1 : w.heap.size + 1 < w1.heap.size := by have := hB1.size; simp at this; omega
          have HB1 := hide0 (HB.out.trans (hB1.mono HB.out.size))
          have HB0 := hide0 hB1
          clear hB1
          go_wp2_with fail
          go_ret
          exact ⟨HB1.out, _, rfl, rfl⟩
      · have t1 : ((es.length : Int) != (wN : Int) * hN) = false := by simp; omega
        have t2 : ((fs.length : Int) != (wN : Int) * hN) = false := by simp; omega
        have t3 : ((gs.length : Int) != (wN : Int) * hN) = true := by simp; omega
        have hv : fitsN wN hN wrap es fs gs = false := by unfold fitsN; rw [decide_eq_false l3]; simp
        rw [hv]
        clear l1 l2 l3 hle hv
        go_enter Try.func26, Try.ntmps26
        go_wp2_with fail
        go_at_call 12
        refine Calls.mono H.out ?_
        rintro e w1 ⟨rfl, hB1⟩
        obtain ⟨hc, hfz⟩ := bcell hB1
        have k1 : w.heap.size + 1 < w1.heap.size := by have := hB1.size; simp at this; omega
        have HB1 := hide0 (HB.out.trans (hB1.mono HB.out.size))
        have HB0 := hide0 hB1
        clear hB1
        go_wp2_with fail
        go_ret
        exact ⟨HB1.out, _, rfl, rfl⟩
    · have t1 : ((es.length : Int) != (wN : Int) * hN) = false := by simp; omega
      have t2 : ((fs.length : Int) != (wN : Int) * hN) = true := by simp; omega
      have hv : fitsN wN hN wrap es fs gs = false := by unfold fitsN; rw [decide_eq_false l2]; simp
      rw [hv]
      clear l1 l2 hle hv
      go_enter Try.func26, Try.ntmps26
      go_wp2_with fail
      go_at_call 12
      refine Calls.mono H.out ?_
      rintro e w1 ⟨rfl, hB1⟩
      obtain ⟨hc, hfz⟩ := bcell hB1
      have k1 : w.heap.size + 1 < w1.heap.size := by have := hB1.size; simp at this; omega
      have HB1 := hide0 (HB.out.trans (hB1.mono HB.out.size))
      have HB0 := hide0 hB1
      clear hB1
      go_wp2_with fail
      go_ret
      exact ⟨HB1.out, _, rfl, rfl⟩
  · have t1 : ((es.length : Int) != (wN : Int) * hN) = true := by simp; omega
    have hv : fitsN wN hN wrap es fs gs = false := by unfold fitsN; rw [decide_eq_false l1]; simp
    rw [hv]
    clear l1 hle hv
    go_enter Try.func26, Try.ntmps26
    go_wp2_with fail
    go_at_call 12
    refine Calls.mono H.out ?_
    rintro e w1 ⟨rfl, hB1⟩
    obtain ⟨hc, hfz⟩ := bcell hB1
    have k1 : w.heap.size + 1 < w1.heap.size := by have := hB1.size; simp at this; omega
    have HB1 := hide0 (HB.out.trans (hB1.mono HB.out.size))
    have HB0 := hide0 hB1
    clear hB1
    go_wp2_with fail
    go_ret
    exact ⟨HB1.out, _, rfl, rfl⟩

end Go.Proofs.Ytbfilganggllkaa
