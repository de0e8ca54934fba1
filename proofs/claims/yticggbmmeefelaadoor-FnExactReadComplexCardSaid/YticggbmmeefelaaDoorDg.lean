/-
Decimal texts read back: the program; the law on ReadDecimal.
-/
import Derived.Test.YticggbmmeefelaaDoorDf
import Derived.Test.YticggbmmeefelaaDoorSp
import Derived.Lib.AtoiErrMem
set_option linter.unusedVariables false
set_option linter.unusedSimpArgs false
namespace Go.Proofs.YticggbmmeefelaaDoor
open Go Go.RowKit

/-- both of strconv's errors are there -/
def Errs (w : World) : Prop := (∃ te pe, w.cell? ⟨2, 0, none⟩ = some (.iface te pe)) ∧ (∃ te pe, w.cell? ⟨3, 0, none⟩ = some (.iface te pe))
theorem Errs.keep {w w' : World} (h : Errs w) (hb : Below w.heap.size w w') : Errs w' := by
  obtain ⟨⟨t1, p1, h1⟩, ⟨t2, p2, h2⟩⟩ := h
  have l1 := World.block_lt_of_cell? _ _ h1
  have l2 := World.block_lt_of_cell? _ _ h2
  exact ⟨⟨t1, p1, (hb.cell (p := ⟨2, 0, none⟩) l1).trans h1⟩, ⟨t2, p2, (hb.cell (p := ⟨3, 0, none⟩) l2).trans h2⟩⟩
def Vars (w : World) : Prop := Tab10 w ∧ Errs w
theorem Vars.keep {w w' : World} (h : Vars w) (hb : Below w.heap.size w w') : Vars w' := ⟨h.1.keep hb, h.2.keep hb⟩

theorem isV_bd {n : Int} (h : isV n = true) : -1000000000000000 ≤ n ∧ n ≤ 1000000000000000 := by
  unfold isV inR at h
  simpa using h
theorem readP_parse {l : List UInt8} (h : readP l = true) : Lib.parseIntB 64 l = .ok (specN l) ∧ isV (specN l) = true ∧ Lib.itoa (specN l) = l := by
  unfold readP at h
  simp only [Bool.and_eq_true, beq_iff_eq] at h
  obtain ⟨_, h2, h3⟩ := h
  have b := isV_bd h2
  have := parse_itoa b.1 b.2
  rw [h3] at this
  exact ⟨this, h2, h3⟩
theorem readP_mk {l : List UInt8} {v : Int} (hv : isV v = true) (hi : Lib.itoa v = l) : readP l = true ∧ readN l = v := by
  have b := isV_bd hv
  have e : specN l = v := by rw [← hi]; exact specN_itoa v
  have hl := itoa_short b.1 b.2
  rw [hi] at hl
  have hp : readP l = true := by
    unfold readP
    rw [e, hv, hi, decide_eq_true hl]
    simp
  exact ⟨hp, (readN_yes hp).trans e⟩
theorem readP_not {l : List UInt8} (h : ∀ v, Lib.parseIntB 64 l = .ok v → isV v = true → Lib.itoa v = l → False) : readP l = false := by
  cases hr : readP l
  · rfl
  · obtain ⟨h1, h2, h3⟩ := readP_parse hr
    exact (h _ h1 h2 h3).elim
theorem parse_bd {l : List UInt8} {v : Int} (h : Lib.parseIntB 64 l = .ok v) (hv : isV v = true) : -9223372036854775808 ≤ v ∧ v ≤ 9223372036854775807 := by
  have := isV_bd hv; omega

set_option maxRecDepth 100000 in
set_option maxHeartbeats 1000000 in
theorem c_implRead (s : ByteArray) (w : World) (hm : s.size ≤ 1048576) (hv : Vars w) : Calls Tryd.prog 21 #[.string s] w (ReadGives s.data.toList w) := by
  unfold ReadGives
  have HV := hide_ hv
  clear hv
  cases hp : Lib.parseIntB 64 s.data.toList with
  | ok v =>
    have P1 := hide_ (Tryd.strconv_ParseInt_10_at64_ok s (by omega) v hp)
    have HI := hide_ (c_isValue v)
    cases hiv : isV v
    · have hr : readP s.data.toList = false := readP_not fun v' h1 h2 h3 => by rw [hp] at h1; cases h1; rw [hiv] at h2; cases h2
      rw [readN_no hr, hr]
      have HI' : Hid (∀ w, Calls Tryd.prog 48 #[.int .i64 v] w fun e w' => e = .returned (.bool false) ∧ w = w') := by
        have := HI.out
        rw [hiv] at this
        exact this
      clear hr hp hiv HI
      go_enter Tryd.func21, Tryd.ntmps21
      go_wp2_with fail
      go_at_call 47
      refine (P1.out _).mono ?_
      rintro e w1 ⟨rfl, hw1⟩
      have hB1 : Below w.heap.size w w1 := by
        rcases hw1 with rfl | ⟨t, rfl⟩
        · exact Below.refl _ _
        · exact Lib.bytesWorld_below w 5 t
      clear hw1
      go_wp2_with (go_at_call 48; refine (HI'.out _).mono ?_; rintro e w' ⟨rfl, rfl⟩)
      go_ret2
      exact ⟨rfl, hB1⟩
    · have hb := parse_bd hp hiv
      have HI' : Hid (∀ w, Calls Tryd.prog 48 #[.int .i64 v] w fun e w' => e = .returned (.bool true) ∧ w = w') := by
        have := HI.out
        rw [hiv] at this
        exact this
      have HD : Hid (∀ W, Tab10 W → Calls Tryd.prog 11 #[.int .i64 v] W (DecText v W)) := fun W hW => c_implDecimal v hb.1 hb.2 W hW
      cases hq : (Lib.itoa v == s.data.toList)
      · have hr : readP s.data.toList = false := readP_not fun v' h1 h2 h3 => by
          rw [hp] at h1
          cases h1
          rw [h3] at hq
          simp at hq
        rw [readN_no hr, hr]
        have hcmp := (str_eq (Lib.itoa v) s).trans hq
        clear hr hp hiv HI hq hb
        go_enter Tryd.func21, Tryd.ntmps21
        go_wp2_with fail
        go_at_call 47
        refine (P1.out _).mono ?_
        rintro e w1 ⟨rfl, hw1⟩
        have hB1 : Below w.heap.size w w1 := by
          rcases hw1 with rfl | ⟨t, rfl⟩
          · exact Below.refl _ _
          · exact Lib.bytesWorld_below w 5 t
        have T1 := hide_ (HV.out.keep hB1).1
        clear hw1
        go_wp2_with (first | (go_at_call 48; refine (HI'.out _).mono ?_; rintro e w' ⟨rfl, rfl⟩) | (go_at_call 11; refine (HD.out _ T1.out).mono ?_; rintro e w2 ⟨rfl, hB2⟩))
        go_ret2
        exact ⟨rfl, hB1.trans (hB2.mono hB1.size)⟩
      · have hr := readP_mk hiv (beq_iff_eq.1 hq)
        rw [hr.1, hr.2]
        have hcmp := (str_eq (Lib.itoa v) s).trans hq
        clear hr hp hiv HI hq hb
        go_enter Tryd.func21, Tryd.ntmps21
        go_wp2_with fail
        go_at_call 47
        refine (P1.out _).mono ?_
        rintro e w1 ⟨rfl, hw1⟩
        have hB1 : Below w.heap.size w w1 := by
          rcases hw1 with rfl | ⟨t, rfl⟩
          · exact Below.refl _ _
          · exact Lib.bytesWorld_below w 5 t
        have T1 := hide_ (HV.out.keep hB1).1
        clear hw1
        go_wp2_with (first | (go_at_call 48; refine (HI'.out _).mono ?_; rintro e w' ⟨rfl, rfl⟩) | (go_at_call 11; refine (HD.out _ T1.out).mono ?_; rintro e w2 ⟨rfl, hB2⟩))
        go_ret2
        exact ⟨rfl, hB1.trans (hB2.mono hB1.size)⟩
  | _ =>
    have hr : readP s.data.toList = false := readP_not fun v' h1 h2 h3 => by rw [hp] at h1; cases h1
    rw [readN_no hr, hr]
    obtain ⟨⟨t1, p1, h1⟩, ⟨t2, p2, h2⟩⟩ := HV.out.2
    have P1 : Hid (∃ v, Calls Tryd.prog 47 #[.string s, .int .i64 10, .int .i64 64] w fun e w' => ∃ N, e = .returned (.tuple #[.int .i64 v, .iface 104 (.pointer (some ⟨N, 0, none⟩))]) ∧ Below w.heap.size w w') := by
      first
        | exact ⟨_, (Tryd.strconv_ParseInt_10_at64_syntax s (by omega) hp _ w h1 (.inr ⟨_, _, rfl⟩)).mono fun e w' ⟨N, he, _, _, hB⟩ => ⟨N, he, hB⟩⟩
        | exact ⟨_, (Tryd.strconv_ParseInt_10_at64_range s (by omega) hp _ w h2 (.inr ⟨_, _, rfl⟩)).mono fun e w' ⟨N, he, _, _, hB⟩ => ⟨N, he, hB⟩⟩
    obtain ⟨v, P2⟩ := P1.out
    have P3 := hide_ P2
    clear hr hp P1 P2 h1 h2
    go_enter Tryd.func21, Tryd.ntmps21
    go_wp2_with fail
    go_at_call 47
    refine Calls.mono P3.out ?_
    rintro e w1 ⟨N, rfl, hB1⟩
    go_wp2_with fail
    go_ret2
    exact ⟨rfl, hB1⟩

theorem c_specRead (s : ByteArray) (w : World) (hm : s.size ≤ 1048576) : Calls Tryd.prog 20 #[.string s] w (ReadGives s.data.toList w) := by
  have H := hide_ (c_l01Value s w (by unfold maxLen; omega))
  go_enter Tryd.func20, Tryd.ntmps20
  go_wp2_with fail
  go_at_call 46
  refine Calls.mono H.out ?_
  rintro e w1 ⟨rfl, hB⟩
  go_wp2_with fail
  go_ret2
  exact ⟨rfl, hB⟩

set_option maxRecDepth 100000 in
theorem walk_FnExactReadDecimal (s : ByteArray) (hs : s.size ≤ maxLen) (w : World) (hv : Vars w) : Calls Tryd.prog 6 #[.string s] w (LawD w) := by
  unfold maxLen at hs
  by_cases hbig : s.size ≤ 1048576
  · have hI : ¬ (1048576 : Int) < s.size := by omega
    have H1 := hide_ (c_specRead s w hbig)
    have H2 := hide_ (fun W (h : Vars W) => c_implRead s W hbig h)
    have HV := hide_ hv
    clear hs hv
    go_enter Tryd.func6, Tryd.ntmps6
    go_wp2_with fail
    go_at_call 20
    refine Calls.mono H1.out ?_
    rintro e w1 ⟨rfl, hB1⟩
    have B1 := hide_ hB1
    clear hB1
    go_wp2_with fail
    go_at_call 21
    refine (H2.out _ (HV.out.keep B1.out)).mono ?_
    rintro e w2 ⟨rfl, hB2⟩
    have B2 := hide_ (B1.out.trans (hB2.mono B1.out.size))
    clear hB2
    go_wp2_with fail
    go_ret
    exact ⟨rfl, B2.out⟩
  · have hI : (1048576 : Int) < s.size := by omega
    clear hs
    go_enter Tryd.func6, Tryd.ntmps6
    go_wp2_with fail
    go_ret
    exact ⟨rfl, Below.refl _ _⟩

end Go.Proofs.YticggbmmeefelaaDoor
