/-
Fields of a sheet: the contract in the reference.
-/
import Derived.Test.YtbfilganggllkaaFa
import Derived.Test.YtbfilganggllkaaPa
set_option linter.unusedVariables false
set_option linter.unusedSimpArgs false
namespace Go.Proofs.Ytbfilganggllkaa
open Fl Go.RowKit

def fitsN (wN hN : Nat) (wrap : Bool) (es fs gs : List Nat) : Bool :=
  decide (es.length = wN * hN) && (decide (fs.length = wN * hN) && (decide (gs.length = wN * hN) && (wrap || (List.range (wN * hN)).all fun i => !badI wN hN es fs gs i)))
theorem fits_bad {wN hN : Nat} {es fs gs : List Nat} {i : Nat} (hi : i < wN * hN) (h : badI wN hN es fs gs i = true) : fitsN wN hN false es fs gs = false := by
  have : ((List.range (wN * hN)).all fun i => !badI wN hN es fs gs i) = false := by
    rw [List.all_eq_false]; exact ⟨i, List.mem_range.2 hi, by rw [h]; decide⟩
  unfold fitsN; rw [this]; simp
theorem fits_ok {wN hN : Nat} {es fs gs : List Nat} (h1 : es.length = wN * hN) (h2 : fs.length = wN * hN) (h3 : gs.length = wN * hN) (h : ∀ i, i < wN * hN → badI wN hN es fs gs i = false) : fitsN wN hN false es fs gs = true := by
  have : ((List.range (wN * hN)).all fun i => !badI wN hN es fs gs i) = true := by
    rw [List.all_eq_true]; intro i hi; rw [h i (List.mem_range.1 hi)]; rfl
  unfold fitsN; rw [this, decide_eq_true h1, decide_eq_true h2, decide_eq_true h3]; rfl
theorem fits_wrap {wN hN : Nat} {es fs gs : List Nat} (h1 : es.length = wN * hN) (h2 : fs.length = wN * hN) (h3 : gs.length = wN * hN) : fitsN wN hN true es fs gs = true := by
  unfold fitsN; rw [decide_eq_true h1, decide_eq_true h2, decide_eq_true h3]; rfl
theorem cell_div {wN k m : Nat} (h : m < wN) : (m + wN * k) % wN = m ∧ (m + wN * k) / wN = k := by
  constructor
  · rw [Nat.add_mul_mod_self_left]; exact Nat.mod_eq_of_lt h
  · rw [Nat.add_mul_div_left _ _ (by omega), Nat.div_eq_of_lt h]; omega
theorem cell_lt {wN hN k m : Nat} (h : m < wN) (hk : k < hN) : m + wN * k < wN * hN := by
  have : wN * (k + 1) ≤ wN * hN := Nat.mul_le_mul_left _ hk
  rw [Nat.mul_succ] at this
  omega
theorem cells_le {wN hN : Nat} (a2 : wN ≤ 16) (a4 : hN ≤ 16) : wN * hN ≤ 256 := Nat.le_trans (Nat.mul_le_mul a2 a4) (by decide)

set_option maxRecDepth 100000 in
set_option maxHeartbeats 4000000 in
theorem c_l02Fits (p q wN hN : Nat) (wrap : Bool) (A : Option Addr) (a : Nat) (B : Option Addr) (b : Nat) (C : Option Addr) (c : Nat) (es fs gs : List Nat) (w : World)
    (h0 : w.cell? ⟨p, 0, none⟩ = some (.int .i64 wN)) (h1 : w.cell? ⟨p, 1, none⟩ = some (.int .i64 hN)) (h2 : w.cell? ⟨p, 2, none⟩ = some (.bool wrap))
    (g0 : w.cell? ⟨q, 0, none⟩ = some (.slice A es.length a)) (g1 : w.cell? ⟨q, 1, none⟩ = some (.slice B fs.length b)) (g2 : w.cell? ⟨q, 2, none⟩ = some (.slice C gs.length c))
    (fA : Fl32 w A es) (fB : Fl32 w B fs) (fC : Fl32 w C gs) (a1 : 3 ≤ wN) (a2 : wN ≤ 16) (a3 : 3 ≤ hN) (a4 : hN ≤ 16) (he : es.length ≤ 1048576) (hf : fs.length ≤ 1048576) (hg : gs.length ≤ 1048576) :
    Calls Try.prog 44 #[.pointer (some ⟨p, 0, none⟩), .pointer (some ⟨q, 0, none⟩)] w (RB (fitsN wN hN wrap es fs gs) w) := by
  have hle := cells_le a2 a4
  have m1 : 0 ≤ (wN : Int) * hN := by omega
  have m2 : (wN : Int) * hN ≤ 256 := by rw [← Int.natCast_mul]; omega
  have hw : IntKind.i64.wrap ((wN : Int) * hN) = (wN : Int) * hN := IntWalk.i64_in _ (by omega)
  by_cases l1 : es.length = wN * hN
  · by_cases l2 : fs.length = wN * hN
    · by_cases l3 : gs.length = wN * hN
      · have H1' := hide0 l1
        have H2' := hide0 l2
        have H3' := hide0 l3
        have t1 : ((es.length : Int) != (wN : Int) * hN) = false := by simp; omega
        have t2 : ((fs.length : Int) != (wN : Int) * hN) = false := by simp; omega
        have t3 : ((gs.length : Int) != (wN : Int) * hN) = false := by simp; omega
        have hpos : 0 < wN * hN := Nat.mul_pos (by omega) (by omega)
        obtain ⟨bA, oA, rfl, _, cA⟩ := fA.of_pos (by omega)
        obtain ⟨bB, oB, rfl, _, cB⟩ := fB.of_pos (by omega)
        obtain ⟨bC, oC, rfl, _, cC⟩ := fC.of_pos (by omega)
        have KA := hide0 cA
        have KB := hide0 cB
        have KC := hide0 cC
        have HLE := hide0 hle
        clear cA cB cC hpos fA fB fC l1 l2 l3
        cases wrap
        · have BD := hide0 (fun (m k : Nat) (n : Nat) => c_l02Border p wN hN m k (w.drewN n) h0 h1 h2 a1 a2 a3 a4)
          go_enter Try.func44, Try.ntmps44
          go_wp2_with fail
          go_quiet (fail)
          go_wp2_with fail
          clear t1 t2 t3 hw
          go_loop [6] (fun y => ∃ k : Nat, k ≤ hN ∧ y = .int .i64 k ∧ ∀ j, j < wN * k → badI wN hN es fs gs j = false) (fun y => hN - (intOf y).toNat)
          case atStart => exact ⟨0, Nat.zero_le _, rfl, fun j hj => absurd hj (by simp)⟩
          case round =>
            obtain ⟨k, hk, rfl, hok⟩ := hrel
            have HO := hide0 hok
            clear hok
            by_cases hlt : k < hN
            · go_wp2_with fail
              go_loop [7] (fun x => ∃ m : Nat, m ≤ wN ∧ x = .int .i64 m ∧ ∀ j, j < m + wN * k → badI wN hN es fs gs j = false) (fun x => wN - (intOf x).toNat)
              case atStart => exact ⟨0, Nat.zero_le _, rfl, fun j hj => HO.out j (by omega)⟩
              case round =>
                obtain ⟨m, hm, rfl, hok⟩ := hrel
                have HM := hide0 hok
                clear hok
                by_cases hltm : m < wN
                · have hcl := cell_lt hltm hlt
                  obtain ⟨i, hi⟩ : ∃ i, i = m + wN * k := ⟨_, rfl⟩
                  have hdm := cell_div (k := k) hltm
                  rw [← hi] at hcl hdm HM
                  have hbi : badI wN hN es fs gs i = badAt wN hN m k (es.getD i 0) (fs.getD i 0) (gs.getD i 0) := by unfold badI; rw [hdm.1, hdm.2]
                  have hsum : (m : Int) + (wN : Int) * (k : Int) = (i : Int) := by rw [hi]; simp
                  have s1 : 0 ≤ (wN : Int) * (k : Int) := by rw [← Int.natCast_mul]; omega
                  have s2 : (wN : Int) * (k : Int) ≤ 256 := by have := HLE.out; omega
                  have i1 : (i : Int) < es.length := by rw [H1'.out]; omega
                  have i2 : (i : Int) < fs.length := by rw [H2'.out]; omega
                  have i3 : (i : Int) < gs.length := by rw [H3'.out]; omega
                  have w1 : IntKind.i64.wrap ((wN : Int) * (k : Int)) = (wN : Int) * (k : Int) := IntWalk.i64_in _ (by omega)
                  have kA := KA.out i (by omega)
                  have kB := KB.out i (by omega)
                  have kC := KC.out i (by omega)
                  have HBI := hide0 hbi
                  have HI := hide0 hi
                  have HC := hide0 hcl
                  clear hbi hi hcl hdm
                  generalize es.getD i 0 = ve at kA HBI
                  generalize fs.getD i 0 = vf at kB HBI
                  generalize gs.getD i 0 = vg at kC HBI
                  have BK := hide0 (BD.out m k)
                  cases hb : bordN wN hN m k
                  · rw [hb] at BK
                    by_cases hyk : k + 1 = hN
                    · have b2 : ((k : Int) == (hN : Int) - 1) = true := by simp; omega
                      cases hnf : nz vf
                      · have q2 : (FloatKind.f32.format.order vf 0 != some .eq) = false := hnf
                        by_cases hxm : m + 1 = wN
                        · have b3 : ((m : Int) == (wN : Int) - 1) = true := by simp; omega
                          cases hng : nz vg
                          · have q3 : (FloatKind.f32.format.order vg 0 != some .eq) = false := hng
                            have hbv : badI wN hN es fs gs i = false := by rw [HBI.out]; unfold badAt; simp [hb, hyk, hnf, hxm, hng]
                            have HV := hide0 hbv
                            clear hbv hb hyk hnf hxm hng
                            go_wp2_with (go_at_call 52; refine (BK.out _).mono ?_; rintro e w' ⟨rfl, rfl⟩)
                            go_round
                            case rel =>
                              refine ⟨m + 1, by omega, by go_num, fun j hj => ?_⟩
                              by_cases hji : j = i
                              · rw [hji]; exact HV.out
                              · exact HM.out j (by have := HI.out; omega)
                            case measure => simp [intOf]; omega
                          · have q3 : (FloatKind.f32.format.order vg 0 != some .eq) = true := hng
                            have hbv : badI wN hN es fs gs i = true := by rw [HBI.out]; unfold badAt; simp [hb, hyk, hnf, hxm, hng]
                            have HV := hide0 (fits_bad HC.out hbv)
                            clear hbv hb hyk hnf hxm hng
                            go_wp2_with (go_at_call 52; refine (BK.out _).mono ?_; rintro e w' ⟨rfl, rfl⟩)
                            go_ret
                            exact ⟨by rw [HV.out]; rfl, _, rfl⟩
                        · have b3 : ((m : Int) == (wN : Int) - 1) = false := by simp; omega
                          have hbv : badI wN hN es fs gs i = false := by rw [HBI.out]; unfold badAt; simp [hb, hyk, hnf, hxm]
                          have HV := hide0 hbv
                          clear hbv hb hyk hnf hxm
                          go_wp2_with (go_at_call 52; refine (BK.out _).mono ?_; rintro e w' ⟨rfl, rfl⟩)
                          go_round
                          case rel =>
                            refine ⟨m + 1, by omega, by go_num, fun j hj => ?_⟩
                            by_cases hji : j = i
                            · rw [hji]; exact HV.out
                            · exact HM.out j (by have := HI.out; omega)
                          case measure => simp [intOf]; omega
                      · have q2 : (FloatKind.f32.format.order vf 0 != some .eq) = true := hnf
                        have hbv : badI wN hN es fs gs i = true := by rw [HBI.out]; unfold badAt; simp [hb, hyk, hnf]
                        have HV := hide0 (fits_bad HC.out hbv)
                        clear hbv hb hyk hnf
                        go_wp2_with (go_at_call 52; refine (BK.out _).mono ?_; rintro e w' ⟨rfl, rfl⟩)
                        go_ret
                        exact ⟨by rw [HV.out]; rfl, _, rfl⟩
                    · have b2 : ((k : Int) == (hN : Int) - 1) = false := by simp; omega
                      by_cases hxm : m + 1 = wN
                      · have b3 : ((m : Int) == (wN : Int) - 1) = true := by simp; omega
                        cases hng : nz vg
                        · have q3 : (FloatKind.f32.format.order vg 0 != some .eq) = false := hng
                          have hbv : badI wN hN es fs gs i = false := by rw [HBI.out]; unfold badAt; simp [hb, hyk, hxm, hng]
                          have HV := hide0 hbv
                          clear hbv hb hyk hxm hng
                          go_wp2_with (go_at_call 52; refine (BK.out _).mono ?_; rintro e w' ⟨rfl, rfl⟩)
                          go_round
                          case rel =>
                            refine ⟨m + 1, by omega, by go_num, fun j hj => ?_⟩
                            by_cases hji : j = i
                            · rw [hji]; exact HV.out
                            · exact HM.out j (by have := HI.out; omega)
                          case measure => simp [intOf]; omega
                        · have q3 : (FloatKind.f32.format.order vg 0 != some .eq) = true := hng
                          have hbv : badI wN hN es fs gs i = true := by rw [HBI.out]; unfold badAt; simp [hb, hyk, hxm, hng]
                          have HV := hide0 (fits_bad HC.out hbv)
                          clear hbv hb hyk hxm hng
                          go_wp2_with (go_at_call 52; refine (BK.out _).mono ?_; rintro e w' ⟨rfl, rfl⟩)
                          go_ret
                          exact ⟨by rw [HV.out]; rfl, _, rfl⟩
                      · have b3 : ((m : Int) == (wN : Int) - 1) = false := by simp; omega
                        have hbv : badI wN hN es fs gs i = false := by rw [HBI.out]; unfold badAt; simp [hb, hyk, hxm]
                        have HV := hide0 hbv
                        clear hbv hb hyk hxm
                        go_wp2_with (go_at_call 52; refine (BK.out _).mono ?_; rintro e w' ⟨rfl, rfl⟩)
                        go_round
                        case rel =>
                          refine ⟨m + 1, by omega, by go_num, fun j hj => ?_⟩
                          by_cases hji : j = i
                          · rw [hji]; exact HV.out
                          · exact HM.out j (by have := HI.out; omega)
                        case measure => simp [intOf]; omega
                  · rw [hb] at BK
                    cases hne : nz ve
                    · have q1 : (FloatKind.f32.format.order ve 0 != some .eq) = false := hne
                      by_cases hyk : k + 1 = hN
                      · have b2 : ((k : Int) == (hN : Int) - 1) = true := by simp; omega
                        cases hnf : nz vf
                        · have q2 : (FloatKind.f32.format.order vf 0 != some .eq) = false := hnf
                          by_cases hxm : m + 1 = wN
                          · have b3 : ((m : Int) == (wN : Int) - 1) = true := by simp; omega
                            cases hng : nz vg
                            · have q3 : (FloatKind.f32.format.order vg 0 != some .eq) = false := hng
                              have hbv : badI wN hN es fs gs i = false := by rw [HBI.out]; unfold badAt; simp [hb, hne, hyk, hnf, hxm, hng]
                              have HV := hide0 hbv
                              clear hbv hb hne hyk hnf hxm hng
                              go_wp2_with (go_at_call 52; refine (BK.out _).mono ?_; rintro e w' ⟨rfl, rfl⟩)
                              go_round
                              case rel =>
                                refine ⟨m + 1, by omega, by go_num, fun j hj => ?_⟩
                                by_cases hji : j = i
                                · rw [hji]; exact HV.out
                                · exact HM.out j (by have := HI.out; omega)
                              case measure => simp [intOf]; omega
                            · have q3 : (FloatKind.f32.format.order vg 0 != some .eq) = true := hng
                              have hbv : badI wN hN es fs gs i = true := by rw [HBI.out]; unfold badAt; simp [hb, hne, hyk, hnf, hxm, hng]
                              have HV := hide0 (fits_bad HC.out hbv)
                              clear hbv hb hne hyk hnf hxm hng
                              go_wp2_with (go_at_call 52; refine (BK.out _).mono ?_; rintro e w' ⟨rfl, rfl⟩)
                              go_ret
                              exact ⟨by rw [HV.out]; rfl, _, rfl⟩
                          · have b3 : ((m : Int) == (wN : Int) - 1) = false := by simp; omega
                            have hbv : badI wN hN es fs gs i = false := by rw [HBI.out]; unfold badAt; simp [hb, hne, hyk, hnf, hxm]
                            have HV := hide0 hbv
                            clear hbv hb hne hyk hnf hxm
                            go_wp2_with (go_at_call 52; refine (BK.out _).mono ?_; rintro e w' ⟨rfl, rfl⟩)
                            go_round
                            case rel =>
                              refine ⟨m + 1, by omega, by go_num, fun j hj => ?_⟩
                              by_cases hji : j = i
                              · rw [hji]; exact HV.out
                              · exact HM.out j (by have := HI.out; omega)
                            case measure => simp [intOf]; omega
                        · have q2 : (FloatKind.f32.format.order vf 0 != some .eq) = true := hnf
                          have hbv : badI wN hN es fs gs i = true := by rw [HBI.out]; unfold badAt; simp [hb, hne, hyk, hnf]
                          have HV := hide0 (fits_bad HC.out hbv)
                          clear hbv hb hne hyk hnf
                          go_wp2_with (go_at_call 52; refine (BK.out _).mono ?_; rintro e w' ⟨rfl, rfl⟩)
                          go_ret
                          exact ⟨by rw [HV.out]; rfl, _, rfl⟩
                      · have b2 : ((k : Int) == (hN : Int) - 1) = false := by simp; omega
                        by_cases hxm : m + 1 = wN
                        · have b3 : ((m : Int) == (wN : Int) - 1) = true := by simp; omega
                          cases hng : nz vg
                          · have q3 : (FloatKind.f32.format.order vg 0 != some .eq) = false := hng
                            have hbv : badI wN hN es fs gs i = false := by rw [HBI.out]; unfold badAt; simp [hb, hne, hyk, hxm, hng]
                            have HV := hide0 hbv
                            clear hbv hb hne hyk hxm hng
                            go_wp2_with (go_at_call 52; refine (BK.out _).mono ?_; rintro e w' ⟨rfl, rfl⟩)
                            go_round
                            case rel =>
                              refine ⟨m + 1, by omega, by go_num, fun j hj => ?_⟩
                              by_cases hji : j = i
                              · rw [hji]; exact HV.out
                              · exact HM.out j (by have := HI.out; omega)
                            case measure => simp [intOf]; omega
                          · have q3 : (FloatKind.f32.format.order vg 0 != some .eq) = true := hng
                            have hbv : badI wN hN es fs gs i = true := by rw [HBI.out]; unfold badAt; simp [hb, hne, hyk, hxm, hng]
                            have HV := hide0 (fits_bad HC.out hbv)
                            clear hbv hb hne hyk hxm hng
                            go_wp2_with (go_at_call 52; refine (BK.out _).mono ?_; rintro e w' ⟨rfl, rfl⟩)
                            go_ret
                            exact ⟨by rw [HV.out]; rfl, _, rfl⟩
                        · have b3 : ((m : Int) == (wN : Int) - 1) = false := by simp; omega
                          have hbv : badI wN hN es fs gs i = false := by rw [HBI.out]; unfold badAt; simp [hb, hne, hyk, hxm]
                          have HV := hide0 hbv
                          clear hbv hb hne hyk hxm
                          go_wp2_with (go_at_call 52; refine (BK.out _).mono ?_; rintro e w' ⟨rfl, rfl⟩)
                          go_round
                          case rel =>
                            refine ⟨m + 1, by omega, by go_num, fun j hj => ?_⟩
                            by_cases hji : j = i
                            · rw [hji]; exact HV.out
                            · exact HM.out j (by have := HI.out; omega)
                          case measure => simp [intOf]; omega
                    · have q1 : (FloatKind.f32.format.order ve 0 != some .eq) = true := hne
                      have hbv : badI wN hN es fs gs i = true := by rw [HBI.out]; unfold badAt; simp [hb, hne]
                      have HV := hide0 (fits_bad HC.out hbv)
                      clear hbv hb hne
                      go_wp2_with (go_at_call 52; refine (BK.out _).mono ?_; rintro e w' ⟨rfl, rfl⟩)
                      go_ret
                      exact ⟨by rw [HV.out]; rfl, _, rfl⟩
                · obtain rfl : m = wN := by omega
                  go_wp2_with fail
                  go_round
                  case rel => exact ⟨k + 1, by omega, by go_num, fun j hj => HM.out j (by rw [Nat.mul_succ] at hj; omega)⟩
                  case measure => simp [intOf]; omega
            · obtain rfl : k = hN := by omega
              have HV := hide0 (fits_ok H1'.out H2'.out H3'.out HO.out)
              go_wp2_with fail
              go_ret
              exact ⟨by rw [HV.out]; rfl, _, rfl⟩
        · have HV := hide0 (fits_wrap H1'.out H2'.out H3'.out)
          go_enter Try.func44, Try.ntmps44
          go_wp2_with fail
          go_quiet (fail)
          go_wp2_with fail
          go_loop [6] (fun y => y = .int .i64 0) (fun _ => 0)
          case atStart => rfl
          case round =>
            obtain rfl := hrel
            go_wp2_with fail
            go_ret
            exact ⟨by rw [HV.out]; rfl, _, rfl⟩
      · have hv : fitsN wN hN wrap es fs gs = false := by unfold fitsN; rw [decide_eq_false l3]; simp
        rw [hv]
        have t1 : ((es.length : Int) != (wN : Int) * hN) = false := by simp; omega
        have t2 : ((fs.length : Int) != (wN : Int) * hN) = false := by simp; omega
        have t3 : ((gs.length : Int) != (wN : Int) * hN) = true := by simp; omega
        clear hv l1 l2 l3 hle fA fB fC
        go_enter Try.func44, Try.ntmps44
        go_wp2_with fail
        go_quiet (fail)
        go_wp2_with fail
        go_ret
        exact ⟨rfl, _, rfl⟩
    · have hv : fitsN wN hN wrap es fs gs = false := by unfold fitsN; rw [decide_eq_false l2]; simp
      rw [hv]
      have t1 : ((es.length : Int) != (wN : Int) * hN) = false := by simp; omega
      have t2 : ((fs.length : Int) != (wN : Int) * hN) = true := by simp; omega
      clear hv l1 l2 hle fA fB fC
      go_enter Try.func44, Try.ntmps44
      go_wp2_with fail
      go_quiet (fail)
      go_wp2_with fail
      go_ret
      exact ⟨rfl, _, rfl⟩
  · have hv : fitsN wN hN wrap es fs gs = false := by unfold fitsN; rw [decide_eq_false l1]; simp
    rw [hv]
    have t1 : ((es.length : Int) != (wN : Int) * hN) = true := by simp; omega
    clear hv l1 hle fA fB fC
    go_enter Try.func44, Try.ntmps44
    go_wp2_with fail
    go_quiet (fail)
    go_wp2_with fail
    go_ret
    exact ⟨rfl, _, rfl⟩


end Go.Proofs.Ytbfilganggllkaa
