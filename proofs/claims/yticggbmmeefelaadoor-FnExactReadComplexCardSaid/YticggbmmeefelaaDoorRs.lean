/-
Texts of lists read back: the reference.
-/
import Derived.Test.YticggbmmeefelaaDoorRa
import Derived.Test.YticggbmmeefelaaDoorDf
set_option linter.unusedVariables false
set_option linter.unusedSimpArgs false
namespace Go.Proofs.YticggbmmeefelaaDoor
open Go Go.RowKit

theorem info64r : (Tryd.prog.info? 2).map (fun i => (i.zero, i.size, i.bytes)) = some (some (.int .i64 0), 1, 8) := by kernel_rfl
theorem infoSr : (Tryd.prog.info? 9).map (fun i => (i.zero, i.size, i.bytes)) = some (some (.string ByteArray.empty), 1, 16) := by kernel_rfl
/-- what reading a list gives -/
def NumGives (s : ByteArray) (w : World) (e : Ending) (w' : World) : Prop :=
  ∃ v, e = .returned (.tuple #[v, .bool (numB s)]) ∧ OwnI w.heap.size (numL s) v w' ∧ Below w.heap.size w w'
theorem own_new (w : World) (t : TypeId) (base : Nat) (hb : base ≤ w.heap.size) : (w.alloc (.cells #[] t)).ownsRow base t 1 (.slice (some ⟨w.heap.size, 0, none⟩) 0 0) 0 [] :=
  ⟨rfl, .inr ⟨w.heap.size, 0, #[], rfl, hb, heap_alloc_new w _, Nat.le_refl _, by unfold maxLen; omega, rfl, rfl⟩⟩
theorem ob_some {A3 : Option Addr} {n3 c3 g n c m x : Nat} (hni : (Value.slice A3 n3 c3 = .slice none 0 0) ↔ (Value.slice (some ⟨g, 0, none⟩) n c = .slice none 0 0) ∧ m = 0) (hob : (Value.slice A3 n3 c3).ownBlock = (Value.slice (some ⟨g, 0, none⟩) n c).ownBlock ∨ (Value.slice A3 n3 c3).ownBlock = some x)
    {w : World} {base : Nat} {t : TypeId} {xs : List Value} (ho : w.ownsRow base t 1 (.slice A3 n3 c3) n3 xs) : ∃ g3, A3 = some ⟨g3, 0, none⟩ ∧ (g3 = g ∨ g3 = x) := by
  rcases ho.2 with ⟨hv, hn⟩ | ⟨g', cp, cur, hv, _⟩
  · have := (hni.1 hv).1
    cases this
  · simp only [Value.slice.injEq] at hv
    obtain ⟨rfl, _, rfl⟩ := hv
    refine ⟨g', rfl, ?_⟩
    simp only [Value.ownBlock, Option.some.injEq] at hob
    exact hob
theorem str_eqR (s : ByteArray) (l : List UInt8) : (s.toList == l) = (s.data.toList == l) := by
  rw [toList_eq]

set_option maxRecDepth 100000 in
theorem c_l01Cut (s : ByteArray) (w : World) (hm : s.size ≤ 1048576) : Calls Tryd.prog 66 #[.string s, .int .u8 44] w fun e w' => ∃ A c, e = .returned (.slice A (sp s).length c) ∧ Fs w' A (sp s) ∧ (∀ g, g < w.heap.size → NotAt A g) ∧ Below w.heap.size w w' := by
  obtain ⟨i0, hi, hz0, hz1, hz2⟩ := info_parts infoSr
  go_enter Tryd.func66, Tryd.ntmps66
  go_wp2_with fail
  go_loopw [5, 6, 7] (fun out a i wr => ∃ (done : List ByteArray) (b k : Nat) (A' : Option Addr) (c' : Nat), i = .int .i64 k ∧ a = .int .i64 b ∧ out = .slice A' done.length c' ∧ wr.ownsRow w.heap.size 9 1 (.slice A' done.length c') done.length (done.map Value.string) ∧ Below w.heap.size w wr ∧ CutAt s done b k) (fun out a i wr => s.size + 2 - (intOf i).toNat)
  case atStart => exact ⟨[], 0, 0, _, _, rfl, rfl, rfl, own_new w _ _ (Nat.le_refl _), (Below.refl _ _).alloc (Nat.le_refl _) _, CutAt.zero s⟩
  case round =>
    obtain ⟨done, b, k, A', c', rfl, rfl, rfl, ho, R, hC⟩ := hrel
    have HO := hide_ ho
    have HR := hide_ R
    have HC := hide_ hC
    have hk1 := hC.le
    clear ho R hC
    by_cases hlt : k < s.size
    · have hle : (k : Int) ≤ s.size := by omega
      have hne : ((k : Int) == s.size) = false := beq_eq_false_iff_ne.2 (by omega)
      by_cases h44 : s[k] = 44
      · obtain ⟨a1, a2, a3⟩ := HC.out.hit hlt h44
        have H3 := hide_ a3
        have t44 : ((s[k].toNat : Int) == 44) = true := by rw [h44]; rfl
        have hR2 := hide_ (HR.out)
        have hsz2 : w.heap.size ≤ wr.heap.size := HR.out.size
        clear h44 a3
        go_wp2_with (at_builtin; refine wpList_append_own_at _ rfl (.tmp 26) (.tmp 31) 53 rfl w.heap.size 9 i0 (.string ByteArray.empty) 1 16 Tryd.underlying53 hi hz0 hz1 hz2 rfl (by decide) (.slice A' done.length c') done.length _ rfl (World.ownsRow.alloc HO.out _) ⟨wr.heap.size, 0, none⟩ 1 1 [.string (s.extract b k)] rfl rfl (news_at _ _ _ rfl) (fun u hu => by simp at hu; subst hu; rfl) (by unfold maxLen; omega) (by omega) (by simp; omega) ?_; intro v' w3 hown hgrow _ _; obtain ⟨A3, c3, rfl⟩ := own_form hown; have HO3 := hide_ hown; have HR3 := hide_ ((HR.out.alloc hsz2 (Obj.cells #[.string (s.extract b k)] 9)).grown hgrow (by simp; omega) (fun q hq => (World.ownsRow.lt HO.out q hq).1)); clear hown hgrow)
        go_roundw
        case rel => exact ⟨done ++ [s.extract b k], k + 1, k + 1, A3, c3, by go_num, by go_num, by simp, by simpa using HO3.out, HR3.out, H3.out⟩
        case measure => simp [intOf] <;> omega
      · have H3 := hide_ (HC.out.miss hlt h44)
        have t44 : ((s[k].toNat : Int) == 44) = false := beq_eq_false_iff_ne.2 (fun h => h44 (UInt8.toNat.inj (by show s[k].toNat = 44; omega)))
        clear h44
        go_wp2_with fail
        go_roundw
        case rel => exact ⟨done, b, k + 1, A', c', by go_num, rfl, rfl, HO.out, HR.out, H3.out⟩
        case measure => simp [intOf] <;> omega
    · by_cases he : k = s.size
      · subst he
        obtain ⟨a1, a2, a3⟩ := HC.out.last
        have H3 := hide_ a3
        have hsz2 : w.heap.size ≤ wr.heap.size := HR.out.size
        have hne : ((s.size : Int) == s.size) = true := beq_self_eq_true _
        clear a3
        go_wp2_with (at_builtin; refine wpList_append_own_at _ rfl (.tmp 26) (.tmp 31) 53 rfl w.heap.size 9 i0 (.string ByteArray.empty) 1 16 Tryd.underlying53 hi hz0 hz1 hz2 rfl (by decide) (.slice A' done.length c') done.length _ rfl (World.ownsRow.alloc HO.out _) ⟨wr.heap.size, 0, none⟩ 1 1 [.string (s.extract b s.size)] rfl rfl (news_at _ _ _ rfl) (fun u hu => by simp at hu; subst hu; rfl) (by unfold maxLen; omega) (by omega) (by simp; omega) ?_; intro v' w3 hown hgrow _ _; obtain ⟨A3, c3, rfl⟩ := own_form hown; have HO3 := hide_ hown; have HR3 := hide_ ((HR.out.alloc hsz2 (Obj.cells #[.string (s.extract b s.size)] 9)).grown hgrow (by simp; omega) (fun q hq => (World.ownsRow.lt HO.out q hq).1)); clear hown hgrow)
        go_roundw
        case rel => exact ⟨done ++ [s.extract b s.size], s.size + 1, s.size + 1, A3, c3, by go_num, by go_num, by simp, by simpa using HO3.out, HR3.out, H3.out⟩
        case measure => simp [intOf] <;> omega
      · obtain rfl : done = sp s := HC.out.fin (by omega)
        have HF := hide_ (Fs.of_own HO.out rfl)
        have HNA := hide_ (fun g (hg : g < w.heap.size) => NotAt.own HO.out hg)
        have hgt : ¬ (k : Int) ≤ s.size := by omega
        clear HC
        go_wp2_with fail
        go_ret
        exact ⟨_, ⟨_, rfl⟩, HF.out, HNA.out, HR.out⟩

set_option maxRecDepth 100000 in
set_option maxHeartbeats 1000000 in
theorem c_l01Numbers (s : ByteArray) (w : World) (hm : s.size ≤ 1048576) : Calls Tryd.prog 49 #[.string s] w (NumGives s w) := by
  obtain ⟨i0, hi, hz0, hz1, hz2⟩ := info_parts info64r
  unfold NumGives
  cases hn : isNo s
  · have hno : (s.toList == [110, 111, 110, 101]) = false := by rw [str_eqR]; exact hn
    have HC1 := hide_ (c_l01Cut s (w.alloc (.cells #[] 2)) hm)
    have hsp := sp_le s
    have HN := hide_ hn
    have HP := hide_ (fun k hk => piece_at s (k := k) hk)
    clear hn
    by_cases h64 : (sp s).length ≤ 64
    · have h64i : ¬ (64 : Int) < (sp s).length := by omega
      go_enter Tryd.func49, Tryd.ntmps49
      go_wp2_with fail
      go_at_call 66
      refine Calls.mono HC1.out ?_
      rintro e w1 ⟨A, c, rfl, hF, hNA, hB⟩
      have HF := hide_ hF
      have HNA := hide_ (hNA w.heap.size (by simp))
      have HO1 := hide_ (own_keep (own_new w 2 w.heap.size (Nat.le_refl _)) hB)
      have HB1 := hide_ (((Below.refl w.heap.size w).alloc (Nat.le_refl _) (.cells #[] 2)).trans (hB.mono (by simp)))
      clear hF hNA hB
      go_wp2_with fail
      go_loopw [4, 6] (fun out i wr => ∃ (k : Nat) (A' : Option Addr) (c' : Nat), k ≤ (sp s).length ∧ i = .int .i64 k ∧ out = .slice A' k c' ∧ wr.ownsRow w.heap.size 2 1 (.slice A' k c') k ((((sp s).take k).map rN).map (Value.int .i64)) ∧ Below w.heap.size w wr ∧ Fs wr A (sp s) ∧ (∃ g, A' = some ⟨g, 0, none⟩ ∧ NotAt A g) ∧ ∀ j, j < k → rP ((sp s).getD j default) = true) (fun out i wr => (sp s).length - (intOf i).toNat)
      case atStart => exact ⟨0, _, _, Nat.zero_le _, rfl, rfl, HO1.out, HB1.out, HF.out, ⟨_, rfl, HNA.out⟩, fun j hj => absurd hj (Nat.not_lt_zero _)⟩
      case round =>
        obtain ⟨k, A', c', hk, rfl, rfl, ho, R, F, ⟨g, rfl, hna⟩, P⟩ := hrel
        have HNg := hide_ hna
        have HO := hide_ ho
        have HR := hide_ R
        have HF' := hide_ F
        have HPk := hide_ P
        clear ho R F P hna HO1 HB1 HF HNA
        by_cases hlt : k < (sp s).length
        · obtain ⟨b, off, rfl, hb, hc⟩ := HF'.out.of_pos (by omega)
          have hcell := hc k hlt
          have HM := hide_ (map_snoc s hlt)
          have HV := hide_ (c_l01Value ((sp s).getD k default) wr (by have := HP.out k hlt; unfold maxLen; omega))
          clear hc
          have hltI : (k : Int) < (sp s).length := by omega
          cases hr : readP ((sp s).getD k default).data.toList
          · have HBD := hide_ (num_bad HN.out hlt hr)
            have HV' : Hid (Calls Tryd.prog 46 #[.string ((sp s).getD k default)] wr fun e w' => ∃ n, e = .returned (.tuple #[.int .i64 n, .bool false]) ∧ Below wr.heap.size wr w') := by
              refine Calls.mono HV.out ?_
              rintro e w' ⟨rfl, hB⟩
              exact ⟨_, by rw [hr], hB⟩
            clear HV HM hr
            generalize (sp s).getD k default = p at *
            go_wp2_with fail
            go_at_call 46
            refine Calls.mono HV'.out ?_
            rintro e w2 ⟨n, rfl, hB2⟩
            have HB2 := hide_ (HR.out.trans (hB2.mono HR.out.size))
            clear hB2
            go_wp2_with fail
            go_ret2
            exact ⟨_, by rw [HBD.out.1]; rfl, by rw [HBD.out.2]; exact OwnI.nil _ _, HB2.out⟩
          · have HRk := hide_ (show rP ((sp s).getD k default) = true from hr)
            have hsz0 := hb
            have HV' : Hid (Calls Tryd.prog 46 #[.string ((sp s).getD k default)] wr fun e w' => e = .returned (.tuple #[.int .i64 (rN ((sp s).getD k default)), .bool true]) ∧ Below wr.heap.size wr w') := by
              refine Calls.mono HV.out ?_
              rintro e w' ⟨rfl, hB⟩
              exact ⟨by rw [hr]; rfl, hB⟩
            clear HV hr
            generalize hp : (sp s).getD k default = p at hcell HM HV' HRk
            have HPp := hide_ hp
            clear hp
            go_wp2_with fail
            go_at_call 46
            refine Calls.mono HV'.out ?_
            rintro e w2 ⟨rfl, hB2⟩
            have HO2 := hide_ (own_keep HO.out hB2)
            have HR2 := hide_ (HR.out.trans (hB2.mono HR.out.size))
            have HF2 := hide_ (HF'.out.keep hB2 (Nat.le_refl _))
            have hsz2 : w.heap.size ≤ w2.heap.size := HR2.out.size
            have hszr : wr.heap.size ≤ w2.heap.size := hB2.size
            clear hB2
            go_wp2_with (at_builtin; refine wpList_append_own_at _ rfl (.tmp 34) (.tmp 36) 24 rfl w.heap.size 2 i0 (.int .i64 0) 1 8 Tryd.underlying24 hi hz0 hz1 hz2 rfl (by decide) (.slice (some ⟨g, 0, none⟩) k c') k _ rfl (World.ownsRow.alloc HO2.out _) ⟨w2.heap.size, 0, none⟩ 1 1 [.int .i64 (rN p)] rfl rfl (news_at _ _ _ rfl) (fun u hu => by simp at hu; subst hu; rfl) (by unfold maxLen; omega) (by omega) (by simp; omega) ?_; intro v' w3 hown hgrow hni hob; have HF3 := hide_ ((HF2.out.keep ((Below.refl w2.heap.size w2).alloc (Nat.le_refl _) (Obj.cells #[.int .i64 (rN p)] 2)) (Nat.le_refl _)).grown hgrow HNg.out); have hbg := hgrow.size; obtain ⟨A3, c3, rfl⟩ := own_form hown; have HOB := hide_ (ob_some hni hob hown); have HO3 := hide_ hown; have HR3 := hide_ ((HR2.out.alloc hsz2 (Obj.cells #[.int .i64 (rN p)] 2)).grown hgrow (by simp; omega) (fun q hq => (World.ownsRow.lt HO2.out q hq).1)); have HG3 := hide_ hgrow; clear hown hgrow hni hob)
            go_roundw
            case rel =>
              obtain ⟨g3, rfl, hg3⟩ := HOB.out
              refine ⟨k + 1, _, c3, by omega, by go_num, rfl, by have := HO3.out; rw [← List.map_singleton (f := Value.int .i64), ← List.map_append, HM.out] at this; exact this, HR3.out, HF3.out, ⟨g3, rfl, ?_⟩, fun j hj => ?_⟩
              · rcases hg3 with rfl | rfl
                · exact HNg.out
                · intro b' off' e
                  simp only [Option.some.injEq, Addr.mk.injEq] at e
                  have hb' := e.1
                  simp only [World.size_alloc] at *
                  omega
              · rcases Nat.lt_or_eq_of_le (Nat.le_of_lt_succ hj) with h | h
                · exact HPk.out j h
                · rw [h, HPp.out]; exact HRk.out
            case measure => simp [intOf] <;> omega
        · obtain rfl : k = (sp s).length := by omega
          have HBD := hide_ (num_good HN.out h64 HPk.out)
          have HOO : Hid (OwnI w.heap.size ((sp s).map rN) (.slice (some ⟨g, 0, none⟩) (sp s).length c') wr) := by
            have := HO.out
            rw [List.take_length] at this
            exact ⟨some ⟨g, 0, none⟩, c', by simp, by simpa using this⟩
          go_wp2_with fail
          go_ret2
          exact ⟨_, by rw [HBD.out.1]; rfl, by rw [HBD.out.2]; exact HOO.out, HR.out⟩
    · have h64i : (64 : Int) < (sp s).length := by omega
      have HBD := hide_ (num_long HN.out h64)
      go_enter Tryd.func49, Tryd.ntmps49
      go_wp2_with fail
      go_at_call 66
      refine Calls.mono HC1.out ?_
      rintro e w1 ⟨A, c, rfl, hF, hNA, hB⟩
      have HB1 := hide_ (((Below.refl w.heap.size w).alloc (Nat.le_refl _) (.cells #[] 2)).trans (hB.mono (by simp)))
      clear hF hNA hB
      go_wp2_with fail
      go_ret2
      exact ⟨_, by rw [HBD.out.1]; rfl, by rw [HBD.out.2]; exact OwnI.nil _ _, HB1.out⟩
  · have hno : (s.toList == [110, 111, 110, 101]) = true := by rw [str_eqR]; exact hn
    have HN := hide_ (num_none hn)
    clear hn
    go_enter Tryd.func49, Tryd.ntmps49
    go_wp2_with fail
    go_ret2
    exact ⟨_, by rw [HN.out.1]; rfl, by rw [HN.out.2]; exact ⟨_, _, rfl, own_new w _ _ (Nat.le_refl _)⟩, (Below.refl _ _).alloc (Nat.le_refl _) _⟩

theorem c_specReadList (s : ByteArray) (w : World) (hm : s.size ≤ 1048576) : Calls Tryd.prog 22 #[.string s] w (NumGives s w) := by
  have H := hide_ (c_l01Numbers s w hm)
  unfold NumGives at *
  go_enter Tryd.func22, Tryd.ntmps22
  go_wp2_with fail
  go_at_call 49
  refine Calls.mono H.out ?_
  rintro e w1 ⟨v, rfl, hO, hB⟩
  have HO := hide_ hO
  have HB := hide_ hB
  clear hO hB
  go_wp2_with fail
  go_ret2
  exact ⟨v, rfl, HO.out, HB.out⟩

end Go.Proofs.YticggbmmeefelaaDoor
