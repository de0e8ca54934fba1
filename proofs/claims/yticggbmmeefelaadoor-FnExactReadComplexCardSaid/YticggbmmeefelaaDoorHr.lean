/-
Texts of lists of numbers read back: the reference, walked.
-/
import Derived.Test.YticggbmmeefelaaDoorHq
set_option linter.unusedVariables false
set_option linter.unusedSimpArgs false
namespace Go.Proofs.YticggbmmeefelaaDoor
open Fl Go Go.RowKit

theorem lvA {c : Nat} (h1 : 48 ≤ c) (h2 : c ≤ 57) : lv c = some (c - 48) := by unfold lv; rw [if_pos ⟨h1, h2⟩]
theorem lvB {c : Nat} (h1 : 97 ≤ c) (h2 : c ≤ 102) : lv c = some (c - 87) := by unfold lv; rw [if_neg (by omega), if_pos ⟨h1, h2⟩]
theorem lvC {c : Nat} (h1 : ¬ (48 ≤ c ∧ c ≤ 57)) (h2 : ¬ (97 ≤ c ∧ c ≤ 102)) : lv c = none := by unfold lv; rw [if_neg h1, if_neg h2]
theorem info32r : (Tryd.prog.info? 52).map (fun i => (i.zero, i.size, i.bytes)) = some (some (.float .f32 0), 1, 4) := by kernel_rfl

set_option maxRecDepth 100000 in
set_option maxHeartbeats 4000000 in
theorem c_l01NRead (s : ByteArray) (w : World) (hm : s.size ≤ 1048576) : Calls Tryd.prog 51 #[.string s] w (NReadGives s w) := by
  obtain ⟨i0, hi, hz0, hz1, hz2⟩ := info_parts info32r
  unfold NReadGives
  cases hn : isNo s
  · have hno : (s.toList == [110, 111, 110, 101]) = false := by rw [str_eqR]; exact hn
    have HC1 := hide_ (c_l01Cut s (w.alloc (.cells #[] 52)) hm)
    have hsp := sp_le s
    have HN := hide_ hn
    clear hn
    by_cases h64 : (sp s).length ≤ 256
    · have h64i : ¬ (256 : Int) < (sp s).length := by omega
      go_enter Tryd.func51, Tryd.ntmps51
      go_wp2_with fail
      go_at_call 66
      refine Calls.mono HC1.out ?_
      rintro e w1 ⟨A, c, rfl, hF, hNA, hB⟩
      have HF := hide_ hF
      have HNA := hide_ (hNA w.heap.size (by simp))
      have HO1 := hide_ (own_keep (own_new w 52 w.heap.size (Nat.le_refl _)) hB)
      have HB1 := hide_ (((Below.refl w.heap.size w).alloc (Nat.le_refl _) (.cells #[] 52)).trans (hB.mono (by simp)))
      clear hF hNA hB
      go_wp2_with fail
      go_loopw [4, 6] (fun out i wr => ∃ (k : Nat) (A' : Option Addr) (c' : Nat), k ≤ (sp s).length ∧ i = .int .i64 k ∧ out = .slice A' k c' ∧ wr.ownsRow w.heap.size 52 1 (.slice A' k c') k ((((sp s).take k).map vH).map (Value.float .f32)) ∧ Below w.heap.size w wr ∧ Fs wr A (sp s) ∧ (∃ g, A' = some ⟨g, 0, none⟩ ∧ NotAt A g) ∧ ∀ j, j < k → okH ((sp s).getD j default) = true) (fun out i wr => (sp s).length - (intOf i).toNat)
      case atStart => exact ⟨0, _, _, Nat.zero_le _, rfl, rfl, HO1.out, HB1.out, HF.out, ⟨_, rfl, HNA.out⟩, fun j hj => absurd hj (Nat.not_lt_zero _)⟩
      case round =>
        obtain ⟨k, A', c', hk, rfl, rfl, ho, R, F, ⟨g, rfl, hna⟩, P⟩ := hrel
        have HNg := hide_ hna
        have HO := hide_ ho
        have HR := hide_ R
        have HF' := hide_ F
        have HPk := hide_ P
        clear ho R F P hna HO1 HB1 HF HNA
        by_cases hlt : k < (sp s).length
        · obtain ⟨b, off, rfl, hb, hc⟩ := HF'.out.of_pos (by omega)
          have hcell := hc k hlt
          have HM := hide_ (mapF_snoc s hlt)
          have HBD := hide_ (nN_bad HN.out hlt)
          clear hc
          have hltI : (k : Int) < (sp s).length := by omega
          generalize hp : (sp s).getD k default = p at hcell HM HBD
          have HPp := hide_ hp
          clear hp
          by_cases h8 : p.size = 8
          · have h8I : ((p.size : Int) == 8) = true := beq_iff_eq.2 (by omega)
            have h8N : ((p.size : Int) != 8) = false := by rw [bne, h8I]; rfl
            have HNone := hide_ (fun h => okH_none (p := p) h8 h)
            have HSome := hide_ (fun n h => okH_some (p := p) (n := n) h8 h)
            have HZ0 := hide_ (PZ.zero p)
            go_wp2_with fail
            go_loop [7, 8] (fun n j => ∃ m i : Nat, i ≤ 8 ∧ n = .int .i64 m ∧ j = .int .i64 i ∧ Hid (PZ p i m)) (fun n j => 8 - (intOf j).toNat)
            case atStart => exact ⟨0, 0, by omega, rfl, rfl, HZ0⟩
            case round =>
              obtain ⟨m, i, hi8, rfl, rfl, HZ⟩ := hrel
              by_cases hil : i < 8
              · have hip : i < p.size := by omega
                have hm28 : m < 268435456 := Nat.lt_of_lt_of_le HZ.out.1 (Nat.le_trans (Nat.pow_le_pow_right (by decide) (show i ≤ 7 by omega)) (by decide))
                have HX := hide_ (fun d h => HZ.out.next (d := d) hip h)
                have HY := hide_ (fun h => HZ.out.bad hip h)
                have hx256 : (p[i]'hip).toNat < 256 := (p[i]'hip).toNat_lt
                have hipI : (i : Int) < p.size := by omega
                have hi8I : (i : Int) < 8 := by omega
                obtain ⟨cb, hcb⟩ : ∃ cb, p[i]'hip = cb := ⟨_, rfl⟩
                rw [hcb] at HX HY hx256
                by_cases hA : 48 ≤ cb.toNat ∧ cb.toNat ≤ 57
                · have HD := hide_ (HX.out _ (lvA hA.1 hA.2))
                  have j1 : (48 : Int) ≤ cb.toNat := by omega
                  have j2 : (cb.toNat : Int) ≤ 57 := by omega
                  have j3 : ¬ (97 : Int) ≤ cb.toNat := by omega
                  have HCM := hide_ (show (16 * (m : Int) + ((cb.toNat : Int) - 48)) = ((16 * m + (cb.toNat - 48) : Nat) : Int) by omega)
                  clear hA
                  go_wp2_with fail
                  go_round
                  case rel => exact ⟨16 * m + (cb.toNat - 48), i + 1, by omega, by rw [HCM.out], by go_num, HD.out⟩
                  case measure => simp [intOf] <;> omega
                · by_cases hBb : 97 ≤ cb.toNat ∧ cb.toNat ≤ 102
                  · have HD := hide_ (HX.out _ (lvB hBb.1 hBb.2))
                    have j1 : (97 : Int) ≤ cb.toNat := by omega
                    have j2 : (cb.toNat : Int) ≤ 102 := by omega
                    have j3 : ¬ (cb.toNat : Int) ≤ 57 := by omega
                    have j4 : (48 : Int) ≤ cb.toNat := by omega
                    have HCM := hide_ (show (16 * (m : Int) + ((cb.toNat : Int) - 97 + 10)) = ((16 * m + (cb.toNat - 87) : Nat) : Int) by omega)
                    clear hA hBb
                    go_wp2_with fail
                    go_round
                    case rel => exact ⟨16 * m + (cb.toNat - 87), i + 1, by omega, by rw [HCM.out], by go_num, HD.out⟩
                    case measure => simp [intOf] <;> omega
                  · have HQ := hide_ (HBD.out (HNone.out (HY.out (lvC hA hBb))))
                    have hcc : ((cb.toNat : Int) < 48 ∧ ¬ (48 : Int) ≤ cb.toNat ∧ ¬ (97 : Int) ≤ cb.toNat) ∨ ((48 : Int) ≤ cb.toNat ∧ ¬ (cb.toNat : Int) ≤ 57 ∧ ¬ (97 : Int) ≤ cb.toNat) ∨ ((48 : Int) ≤ cb.toNat ∧ ¬ (cb.toNat : Int) ≤ 57 ∧ (97 : Int) ≤ cb.toNat ∧ ¬ (cb.toNat : Int) ≤ 102) := by omega
                    clear hA hBb
                    rcases hcc with ⟨j1, j2, j3⟩ | ⟨j1, j2, j3⟩ | ⟨j1, j2, j3, j4⟩
                    all_goals
                      go_wp2_with fail
                      go_ret2
                      exact ⟨_, by rw [HQ.out.1]; rfl, by rw [HQ.out.2]; exact OwnF.nil _ _, HR.out⟩
              · obtain rfl : i = 8 := by omega
                have hsv := HZ.out.fin h8
                have hm32 : m < 4294967296 := HZ.out.1
                have hq := HSome.out m hsv
                have HFr := hide_ (c_from m hm32)
                have HBt := hide_ (c_l01Bits m hm32)
                clear hsv
                cases hbm : (bitsOf m == (m : Int))
                · have HQ := hide_ (HBD.out (hq.2.trans hbm))
                  have hne : (bitsOf m != (m : Int)) = true := by rw [bne, hbm]; rfl
                  clear hq hbm
                  generalize bitsOf m = bm at *
                  go_wp2_with (first | (go_at_call 67; refine (HFr.out _).mono ?_; rintro e w' ⟨rfl, rfl⟩) | (go_at_call 68; refine (HBt.out _).mono ?_; rintro e w' ⟨rfl, rfl⟩))
                  go_ret2
                  exact ⟨_, by rw [HQ.out.1]; rfl, by rw [HQ.out.2]; exact OwnF.nil _ _, HR.out⟩
                · have HOK := hide_ (hq.2.trans hbm)
                  have hne : (bitsOf m != (m : Int)) = false := by rw [bne, hbm]; rfl
                  have HVm := hide_ hq.1
                  rw [hq.1] at HM
                  have hsz2 : w.heap.size ≤ wr.heap.size := HR.out.size
                  clear hq hbm
                  generalize bitsOf m = bm at *
                  go_wp2_with (first
                    | (go_at_call 67; refine (HFr.out _).mono ?_; rintro e w' ⟨rfl, rfl⟩)
                    | (go_at_call 68; refine (HBt.out _).mono ?_; rintro e w' ⟨rfl, rfl⟩)
                    | (at_builtin; refine wpList_append_own_at _ rfl (.tmp 74) (.tmp 76) 30 rfl w.heap.size 52 i0 (.float .f32 0) 1 4 Tryd.underlying30 hi hz0 hz1 hz2 rfl (by decide) (.slice (some ⟨g, 0, none⟩) k c') k _ rfl (World.ownsRow.alloc HO.out _) ⟨wr.heap.size, 0, none⟩ 1 1 [.float .f32 m] rfl rfl (news_at _ _ _ rfl) (fun u hu => by simp at hu; subst hu; rfl) (by unfold maxLen; omega) (by omega) (by simp; omega) ?_; intro v' w3 hown hgrow hni hob; have HF3 := hide_ ((HF'.out.keep ((Below.refl wr.heap.size wr).alloc (Nat.le_refl _) (Obj.cells #[.float .f32 m] 52)) (Nat.le_refl _)).grown hgrow HNg.out); have hbg := hgrow.size; obtain ⟨A3, c3, rfl⟩ := own_form hown; have HOB := hide_ (ob_some hni hob hown); have HO3 := hide_ hown; have HR3 := hide_ ((HR.out.alloc hsz2 (Obj.cells #[.float .f32 m] 52)).grown hgrow (by simp; omega) (fun q hq => (World.ownsRow.lt HO.out q hq).1)); clear hown hgrow hni hob))
                  go_roundw
                  case rel =>
                    obtain ⟨g3, rfl, hg3⟩ := HOB.out
                    refine ⟨k + 1, _, c3, by omega, by go_num, rfl, by have := HO3.out; rw [← List.map_singleton (f := Value.float .f32), ← List.map_append, HM.out] at this; exact this, HR3.out, HF3.out, ⟨g3, rfl, ?_⟩, fun j hj => ?_⟩
                    · rcases hg3 with rfl | rfl
                      · exact HNg.out
                      · intro b' off' e
                        simp only [Option.some.injEq, Addr.mk.injEq] at e
                        have hb' := e.1
                        simp only [World.size_alloc] at *
                        omega
                    · rcases Nat.lt_or_eq_of_le (Nat.le_of_lt_succ hj) with h | h
                      · exact HPk.out j h
                      · rw [h, HPp.out]; exact HOK.out
                  case measure => simp [intOf] <;> omega
          · have h8I : ((p.size : Int) != 8) = true := by rw [bne_iff_ne]; omega
            have HQ := hide_ (HBD.out (okH_size h8))
            go_wp2_with fail
            go_ret2
            exact ⟨_, by rw [HQ.out.1]; rfl, by rw [HQ.out.2]; exact OwnF.nil _ _, HR.out⟩
        · obtain rfl : k = (sp s).length := by omega
          have HBD := hide_ (nN_good HN.out h64 HPk.out)
          have HOO : Hid (OwnF w.heap.size ((sp s).map vH) (.slice (some ⟨g, 0, none⟩) (sp s).length c') wr) := by
            have := HO.out
            rw [List.take_length] at this
            exact ⟨some ⟨g, 0, none⟩, c', by simp, by simpa using this⟩
          go_wp2_with fail
          go_ret2
          exact ⟨_, by rw [HBD.out.1]; rfl, by rw [HBD.out.2]; exact HOO.out, HR.out⟩
    · have h64i : (256 : Int) < (sp s).length := by omega
      have HBD := hide_ (nN_long HN.out h64)
      go_enter Tryd.func51, Tryd.ntmps51
      go_wp2_with fail
      go_at_call 66
      refine Calls.mono HC1.out ?_
      rintro e w1 ⟨A, c, rfl, hF, hNA, hB⟩
      have HB1 := hide_ (((Below.refl w.heap.size w).alloc (Nat.le_refl _) (.cells #[] 52)).trans (hB.mono (by simp)))
      clear hF hNA hB
      go_wp2_with fail
      go_ret2
      exact ⟨_, by rw [HBD.out.1]; rfl, by rw [HBD.out.2]; exact OwnF.nil _ _, HB1.out⟩
  · have hno : (s.toList == [110, 111, 110, 101]) = true := by rw [str_eqR]; exact hn
    have HN := hide_ (nN_none hn)
    clear hn
    go_enter Tryd.func51, Tryd.ntmps51
    go_wp2_with fail
    go_ret2
    exact ⟨_, by rw [HN.out.1]; rfl, by rw [HN.out.2]; exact ⟨_, _, rfl, own_new w _ _ (Nat.le_refl _)⟩, (Below.refl _ _).alloc (Nat.le_refl _) _⟩

theorem c_specReadNumbers (s : ByteArray) (w : World) (hm : s.size ≤ 1048576) : Calls Tryd.prog 26 #[.string s] w (NReadGives s w) := by
  have H := hide_ (c_l01NRead s w hm)
  unfold NReadGives at *
  go_enter Tryd.func26, Tryd.ntmps26
  go_wp2_with fail
  go_at_call 51
  refine Calls.mono H.out ?_
  rintro e w1 ⟨v, rfl, hO, hB⟩
  have HO := hide_ hO
  have HB := hide_ hB
  clear hO hB
  go_wp2_with fail
  go_ret2
  exact ⟨v, rfl, HO.out, HB.out⟩

end Go.Proofs.YticggbmmeefelaaDoor
