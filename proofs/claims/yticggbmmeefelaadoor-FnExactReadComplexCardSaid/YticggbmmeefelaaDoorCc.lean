/-
The text of a list of complex numbers in the program.
-/
import Derived.Test.YticggbmmeefelaaDoorCb
import Derived.Test.YticggbmmeefelaaDoorHt
set_option linter.unusedVariables false
set_option linter.unusedSimpArgs false
namespace Go.Proofs.YticggbmmeefelaaDoor
open Fl Go Go.RowKit

/-- the cells behind an address hold complex numbers -/
def Fc (w : World) (A : Option Addr) (xs : List (Nat × Nat)) : Prop :=
  xs = [] ∨ ∃ b off, A = some ⟨b, off, none⟩ ∧ b < w.heap.size ∧ ∀ j, j < xs.length → w.cell? ⟨b, off + j, none⟩ = some (cxV (xs.getD j (0, 0)))
theorem Fc.keep {B : Nat} {w w' : World} {A : Option Addr} {xs : List (Nat × Nat)} (h : Fc w A xs) (hb : Below B w w') (hB : w.heap.size ≤ B) : Fc w' A xs := by
  rcases h with rfl | ⟨b, off, rfl, hbl, hc⟩
  · exact .inl rfl
  · exact .inr ⟨b, off, rfl, Nat.lt_of_lt_of_le hbl hb.size, fun j hj => by rw [hb.cell (p := ⟨b, off + j, none⟩) (by show b < B; omega)]; exact hc j hj⟩
theorem Fc.of_pos {w : World} {A : Option Addr} {xs : List (Nat × Nat)} (h : Fc w A xs) (hp : 0 < xs.length) : ∃ b off, A = some ⟨b, off, none⟩ ∧ b < w.heap.size ∧ ∀ j, j < xs.length → w.cell? ⟨b, off + j, none⟩ = some (cxV (xs.getD j (0, 0))) := by
  rcases h with rfl | h
  · cases hp
  · exact h
theorem own_fc {base n : Nat} {xs : List (Nat × Nat)} {A : Option Addr} {cap : Nat} {w : World} (h : w.ownsRow base 64 1 (.slice A n cap) n (xs.map cxV)) (hn : n = xs.length) : Fc w A xs := by
  subst hn
  rcases h.2 with ⟨hv, hn⟩ | ⟨g, cp, cur, hv, hb, hh, hr⟩
  · exact .inl (List.eq_nil_of_length_eq_zero hn)
  · simp only [Value.slice.injEq] at hv
    obtain ⟨rfl, _, rfl⟩ := hv
    refine .inr ⟨g, 0, rfl, (Array.getElem?_eq_some_iff.1 hh).1, fun j hj => ?_⟩
    rw [Nat.zero_add, h.cellAt j (by omega), List.getElem?_map, List.getElem?_eq_getElem hj]
    simp [List.getD_eq_getElem?_getD, hj]
def AllC (xs : List (Nat × Nat)) : Prop := ∀ j, (xs.getD j (0, 0)).1 < 4294967296 ∧ (xs.getD j (0, 0)).2 < 4294967296
theorem all_vC {s : ByteArray} (hz : ∀ k, k < (sp s).length → ((sp s).getD k default).size = 16) : AllC ((sp s).map vC) := by
  intro j
  by_cases hj : j < (sp s).length
  · have e : ((sp s).map vC).getD j (0, 0) = vC ((sp s).getD j default) := by simp [List.getD_eq_getElem?_getD, hj]
    rw [e]
    have hz1 := vH_lt (half_size (hz j hj)).1
    have hz2 := vH_lt (half_size (hz j hj)).2
    generalize (sp s).getD j default = p at *
    unfold vC
    generalize vH (p1 p) = x1 at *
    generalize vH (p2 p) = x2 at *
    exact ⟨hz1, hz2⟩
  · have e : ((sp s).map vC).getD j (0, 0) = (0, 0) := by simp [List.getD_eq_getElem?_getD, hj]
    rw [e]
    exact ⟨Nat.zero_lt_succ _, Nat.zero_lt_succ _⟩

set_option maxRecDepth 100000 in
set_option maxHeartbeats 1000000 in
theorem c_implCText (A : Option Addr) (c : Nat) (xs : List (Nat × Nat)) (w : World) (hA : Fc w A xs) (ax : AllC xs) (h256 : xs.length ≤ 256) (ht : Tz w) : Calls Tryd.prog 55 #[.slice A xs.length c] w fun e w' => e = .returned (.tuple #[.string ⟨(textL (xs.map hexC)).toArray⟩, .bool true]) ∧ Below w.heap.size w w' := by
  obtain ⟨i0, hi, hz0, hz1, hz2⟩ := info_parts infoSh
  have hds : ∀ j, j < xs.length → (xs.map hexC)[j]? = some (hexC (xs.getD j (0, 0))) := by
    intro j hj
    simp [List.getD_eq_getElem?_getD, hj]
  have hB : ∀ d ∈ xs.map hexC, d.length ≤ 100 := by
    intro d hd
    simp only [List.mem_map] at hd
    obtain ⟨n, hn, rfl⟩ := hd
    rw [hexC_len]; omega
  have HA := hide_ hA
  have AX := hide_ ax
  have HD := hide_ hds
  have HT := hide_ ht
  have HJ := hide_ (c_joined w.heap.size (xs.map hexC) · · · hB (by simp; omega))
  have h256I : ¬ (256 : Int) < xs.length := by omega
  clear hA ax hds hB ht
  go_enter Tryd.func55, Tryd.ntmps55
  go_wp2_with fail
  go_loopw [4, 13] (fun out i wr => ∃ (k : Nat) (A' : Option Addr) (c' : Nat), k ≤ xs.length ∧ i = .int .i64 k ∧ out = .slice A' k c' ∧ wr.ownsRow w.heap.size 9 1 (.slice A' k c') k (((xs.map hexC).take k).map strV) ∧ Below w.heap.size w wr) (fun out i wr => xs.length - (intOf i).toNat)
  case atStart => exact ⟨0, _, _, Nat.zero_le _, rfl, rfl, ⟨rfl, .inr ⟨w.heap.size, 0, #[], rfl, Nat.le_refl _, heap_alloc_new w _, Nat.le_refl _, by unfold maxLen; omega, rfl, rfl⟩⟩, (Below.refl _ _).alloc (Nat.le_refl _) _⟩
  case round =>
    obtain ⟨k, A', c', hk, rfl, rfl, ho, R⟩ := hrel
    have HO := hide_ ho
    have HR := hide_ R
    clear ho R
    by_cases hlt : k < xs.length
    · obtain ⟨b, off, rfl, hb, hc⟩ := HA.out.of_pos (by omega)
      have hcell := (HR.out.cell (p := ⟨b, off + k, none⟩) hb).trans (hc k hlt)
      have TD := hide_ (HD.out k hlt)
      have hx := AX.out k
      generalize hxk : xs.getD k (0, 0) = xk at hcell TD hx
      clear hc hxk
      obtain ⟨x1, x2⟩ := xk
      obtain ⟨hx1, hx2⟩ := hx
      simp only at hx1 hx2
      have hcell' : wr.cell? ⟨b, off + k, none⟩ = some (.complex .f32 x1 x2) := hcell
      have D1 := hide_ (fun W (h : Tz W) => c_hexOf x1 hx1 W h)
      have D2 := hide_ (fun W (h : Tz W) => c_hexOf x2 hx2 W h)
      have l1 : (hex8 x1).length = 8 := hxL_len _ _
      have l2 : (hex8 x2).length = 8 := hxL_len _ _
      have TD' := hide_ (show (xs.map hexC)[k]? = some (hex8 x1 ++ hex8 x2) from TD.out)
      clear hcell TD hx1 hx2
      generalize hex8 x1 = T1 at *
      generalize hex8 x2 = T2 at *
      have hno : ¬ 9223372036854775807 < T1.length + T2.length := by omega
      have HCat := hide_ (cat2' T1 T2)
      clear l1 l2
      go_wp2_with fail
      go_at_call 43
      refine (D1.out _ (HT.out.keep HR.out)).mono ?_
      rintro e w1 ⟨rfl, hB1⟩
      have HR1 := hide_ (HR.out.trans (hB1.mono HR.out.size))
      have HO1 := hide_ (own_belowH HO.out hB1)
      clear hB1 hcell'
      go_wp2_with fail
      go_at_call 43
      refine (D2.out _ (HT.out.keep HR1.out)).mono ?_
      rintro e w2 ⟨rfl, hB2⟩
      have HO2 := hide_ (own_belowH HO1.out hB2)
      have HR2 := hide_ (HR1.out.trans (hB2.mono HR1.out.size))
      have hsz2 : w.heap.size ≤ w2.heap.size := HR2.out.size
      have hcat := HCat.out
      clear hB2 HO HO1 HR1
      go_wp2_with (at_builtin; refine wpList_append_own_at _ rfl (.tmp 17) (.tmp 25) 53 rfl w.heap.size 9 i0 (.string ByteArray.empty) 1 16 Tryd.underlying53 hi hz0 hz1 hz2 rfl (by decide) (.slice A' k c') k _ rfl (World.ownsRow.alloc HO2.out _) ⟨w2.heap.size, 0, none⟩ 1 1 [strV (T1 ++ T2)] rfl rfl (news_at _ _ _ rfl) (fun u hu => by simp at hu; subst hu; rfl) (by unfold maxLen; omega) (by omega) (by simp; omega) ?_; intro v' w3 hown hgrow _ _; rw [own_strs_H TD'.out] at hown; obtain ⟨A3, c3, rfl⟩ := form_H hown; have HO3 := hide_ hown; have HR3 := hide_ ((HR2.out.alloc hsz2 (Obj.cells #[strV (T1 ++ T2)] 9)).grown hgrow (by simp; omega) (fun q hq => (World.ownsRow.lt HO2.out q hq).1)); clear hown hgrow)
      go_roundw
      case rel => exact ⟨k + 1, A3, c3, by omega, by go_num, rfl, HO3.out, HR3.out⟩
      case measure => simp [intOf]; omega
    · obtain rfl : k = xs.length := by omega
      have ho : wr.ownsRow w.heap.size 9 1 (.slice A' xs.length c') (xs.map hexC).length ((xs.map hexC).map strV) := by
        have := HO.out
        rw [List.take_of_length_le (by simp)] at this
        rw [List.length_map]
        exact this
      have JJ := hide_ (HJ.out _ _ ho)
      clear ho
      go_wp2_with fail
      go_at_call 44
      refine Calls.mono JJ.out ?_
      rintro e w2 ⟨rfl, hB2⟩
      have HR2 := hide_ (HR.out.trans (hB2.mono HR.out.size))
      clear hB2
      go_wp2_with fail
      go_ret2
      exact ⟨rfl, HR2.out⟩

end Go.Proofs.YticggbmmeefelaaDoor
