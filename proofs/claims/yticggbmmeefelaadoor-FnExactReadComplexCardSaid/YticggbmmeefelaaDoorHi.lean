/-
The hexadecimal digits of a number in the program: strconv.FormatInt at base 16.
-/
import Derived.Test.YticggbmmeefelaaDoorHx
import Derived.Test.YticggbmmeefelaaDoorDd
import Derived.Test.YticggbmmeefelaaDoorSr
set_option linter.unusedVariables false
set_option linter.unusedSimpArgs false
namespace Go.Proofs.YticggbmmeefelaaDoor
open Fl Go Go.RowKit

/-- the one cell of the table of trailing zeros that base 16 looks at -/
def Tz (w : World) : Prop := w.cell? ⟨5, 15, none⟩ = some (.int .u8 4)
theorem Tz.keep {w w' : World} (h : Tz w) (hb : Below w.heap.size w w') : Tz w' := by
  have l := World.block_lt_of_cell? _ _ h
  exact (hb.cell (p := ⟨5, 15, none⟩) l).trans h

theorem c_tz64 (w : World) (h : Tz w) : Calls Tryd.prog 109 #[.int .u64 16] w fun e w' => e = .returned (.int .i64 4) ∧ w = w' := by
  have hc : w.cell? ⟨5, 15, none⟩ = some (.int .u8 4) := h
  clear h
  have hb : IntKind.u64.wrap (bits BinOp.and IntKind.u64 16 (IntKind.u64.wrap (-16)) * 285870213051353865) / 288230376151711744 = 15 := by decide
  go_enter Tryd.func109, Tryd.ntmps109
  go_wp2_with fail
  go_ret
  exact ⟨rfl, rfl⟩
theorem c_tz (w : World) (h : Tz w) : Calls Tryd.prog 94 #[.int .u64 16] w fun e w' => e = .returned (.int .i64 4) ∧ w = w' := by
  have H := hide_ (c_tz64 w h)
  clear h
  go_enter Tryd.func94, Tryd.ntmps94
  go_wp2_with fail
  go_at_call 109
  refine Calls.mono H.out ?_
  rintro e w' ⟨rfl, rfl⟩
  go_wp2_with fail
  go_ret
  exact ⟨rfl, rfl⟩
theorem c_isPow (w : World) : Calls Tryd.prog 93 #[.int .i64 16] w fun e w' => e = .returned (.bool true) ∧ w = w' := by
  have hb : bits BinOp.and IntKind.i64 16 15 = 0 := by decide
  go_enter Tryd.func93, Tryd.ntmps93
  go_wp2_with fail
  go_ret
  exact ⟨rfl, rfl⟩
theorem and15_u64 (m : Nat) (hm : m < 18446744073709551616) : bits .and .u64 (m : Int) 15 = ((m % 16 : Nat) : Int) := by
  have h := bits_and_u64_nat m 15 hm (by decide)
  rw [show ((15 : Nat) : Int) = 15 from rfl] at h
  rw [h, show (15 : Nat) = 2 ^ 4 - 1 from rfl, Nat.and_two_pow_sub_one_eq_mod]
theorem hx36_at : ∀ d : Fin 16, (⟨#[48, 49, 50, 51, 52, 53, 54, 55, 56, 57, 97, 98, 99, 100, 101, 102, 103, 104, 105, 106, 107, 108, 109, 110, 111, 112, 113, 114, 115, 116, 117, 118, 119, 120, 121, 122]⟩ : ByteArray).data.toList[d.val]? = some (hd d.val) := by decide +kernel
theorem hx36 (d : Nat) (h : d < 16) : (⟨#[48, 49, 50, 51, 52, 53, 54, 55, 56, 57, 97, 98, 99, 100, 101, 102, 103, 104, 105, 106, 107, 108, 109, 110, 111, 112, 113, 114, 115, 116, 117, 118, 119, 120, 121, 122]⟩ : ByteArray)[d]'(Nat.lt_of_lt_of_le h (by decide)) = hd d := by
  have := hx36_at ⟨d, h⟩
  rw [List.getElem?_eq_getElem (by exact Nat.lt_of_lt_of_le h (by decide))] at this
  exact Option.some.inj this
theorem hex_small {n j : Nat} (hn : n < 4294967296) (hj : j ≤ 7) (h : 16 ≤ n / 16 ^ j) : j < 7 := by
  rcases Nat.lt_or_eq_of_le hj with h1 | h1
  · exact h1
  · subst h1
    have := Nat.div_lt_of_lt_mul (show n < 16 ^ 7 * 16 from Nat.lt_of_lt_of_le hn (by decide))
    omega
theorem hex_end {n j : Nat} (h : ¬ 16 ≤ n / 16 ^ j) : n < 16 ^ (j + 1) := by
  rw [Nat.pow_succ, Nat.mul_comm]
  exact (Nat.div_lt_iff_lt_mul (Nat.pow_pos (by decide))).1 (by omega)
/-- the library's array of digits under way -/
structure AD (w : World) (n j : Nat) (wr : World) : Prop where
  own : ∃ ys, wr.ownsRow w.heap.size 111 1 (.slice (some ⟨w.heap.size, 0, none⟩) 65 65) 65 ys ∧ ∀ p, p < j → ys[65 - j + p]? = ((hxL n j)[p]?).map byteV
  bel : Below w.heap.size w wr
theorem zero65 : Tryd.zeroCells111 = (List.replicate 65 (Value.int .u8 0)).toArray := by kernel_rfl
theorem AD.start (w : World) (n : Nat) : AD w n 0 (w.alloc (.cells Tryd.zeroCells111 111)) := by
  refine ⟨⟨List.replicate 65 (Value.int .u8 0), ⟨by simp, .inr ⟨w.heap.size, 65, (List.replicate 65 (Value.int .u8 0)).toArray, rfl, Nat.le_refl _, ?_, Nat.le_refl _, by unfold maxLen; omega, by simp, by simp⟩⟩, fun p hp => absurd hp (Nat.not_lt_zero _)⟩, (Below.refl _ _).alloc (Nat.le_refl _) _⟩
  rw [← zero65]
  exact heap_alloc_new w _
theorem AD.cell {w wr : World} {n j k : Nat} (h : AD w n j wr) (hk : k < 65) : (∃ u, wr.cell? ⟨w.heap.size, k, none⟩ = some u) ∧ wr.frozen? ⟨w.heap.size, k, none⟩ = false := by
  obtain ⟨ys, ho, hy⟩ := h.own
  have hl : ys.length = 65 * 1 := ho.1
  refine ⟨⟨ys[k]'(by omega), ?_⟩, ho.frozenAt k⟩
  rw [ho.cellAt k (by omega)]
  exact List.getElem?_eq_getElem (by omega)
theorem AD.step {w wr : World} {n j k : Nat} (h : AD w n j wr) (hk : k + 1 + j = 65) : AD w n (j + 1) (wr.setCell ⟨w.heap.size, k, none⟩ (byteV (hd (n / 16 ^ j % 16)))) := by
  obtain ⟨ys, ho, hy⟩ := h.own
  have hl : ys.length = 65 * 1 := ho.1
  refine ⟨⟨_, (ho.stored k _).1, fun p hp => ?_⟩, h.bel.setCell (Nat.le_refl _) _⟩
  rw [List.getElem?_set, hxL_top]
  cases p with
  | zero => rw [if_pos (by omega), if_pos (by omega)]; simp
  | succ q =>
    rw [if_neg (by omega), show 65 - (j + 1) + (q + 1) = 65 - j + q by omega, hy q (by omega)]
    simp
theorem AD.bytes {w wr : World} {n j k : Nat} (h : AD w n j wr) (hk : k + j = 65) (p : Nat) (hp : p < j) : wr.cell? ⟨w.heap.size, k + p, none⟩ = some (byteV ((hxL n j)[p]'(by rw [hxL_len]; exact hp))) := by
  obtain ⟨ys, ho, hy⟩ := h.own
  have := hy p hp
  rw [ho.cellAt (k + p) (by omega), show k + p = 65 - j + p by omega, this, List.getElem?_eq_getElem (by rw [hxL_len]; exact hp)]
  rfl
theorem slice65 (B k : Nat) (hk : k < 65) (W : World) : (Instr.sliceAt 111 (.pointer (some ⟨B, 0, none⟩)) (some (.int .i64 (k : Int))) none none).run Tryd.prog W = .ok (.slice (some ⟨B, k, none⟩) (65 - k) (65 - k)) W := by
  have hal : Tryd.prog.arrayLen 111 = 65 := by simp [Program.arrayLen, Tryd.underlying111]
  rw [run_sliceAt_array_l W 111 ⟨B, 0, none⟩ (by simp [Program.arrayLen, Program.elem, Tryd.underlying111]) .i64 (k : Int) (by omega) (by rw [hal]; omega)]
  have hk2 : ¬ 65 = k := by omega
  go_simp
set_option maxRecDepth 100000 in
theorem c_formatBits (n : Nat) (hn : n < 4294967296) (w : World) (h : Tz w) : Calls Tryd.prog 76 #[.slice none 0 0, .int .u64 n, .int .i64 16, .bool false, .bool false] w fun e w' => ∃ L, 1 ≤ L ∧ L ≤ 8 ∧ n < 16 ^ L ∧ e = .returned (.tuple #[.slice none 0 0, .string ⟨(hxL n L).toArray⟩]) ∧ Below w.heap.size w w' := by
  have HT := hide_ h
  clear h
  go_enter Tryd.func76, Tryd.ntmps76
  go_wp2_with fail
  go_at_call 93
  refine (c_isPow _).mono ?_
  rintro e w' ⟨rfl, rfl⟩
  go_wp2_with fail
  go_at_call 94
  refine (c_tz _ (HT.out.keep ((Below.refl _ _).alloc (Nat.le_refl _) _))).mono ?_
  rintro e w' ⟨rfl, rfl⟩
  go_wp2_with fail
  go_loopw [1, 13] (fun u i wr => ∃ j k : Nat, k + 1 + j = 65 ∧ j ≤ 7 ∧ u = .int .u64 (n / 16 ^ j : Nat) ∧ i = .int .i64 ((k : Int) + 1) ∧ AD w n j wr) (fun u i wr => (intOf u).toNat)
  case atStart => exact ⟨0, 64, rfl, by omega, by simp, rfl, AD.start w n⟩
  case round =>
    obtain ⟨j, k, hkj, hj7, rfl, rfl, R⟩ := hrel
    have HR := hide_ R
    clear R
    have HA := hide_ (HR.out.step hkj)
    obtain ⟨⟨u0, hcell⟩, hfz⟩ := HR.out.cell (k := k) (by omega)
    have HN16 := hide_ (Nat.pow_le_pow_right (n := 16) (by decide) hj7)
    have HSM := hide_ (fun h => hex_small (n := n) (j := j) hn hj7 h)
    have hml : n / 16 ^ j < 4294967296 := Nat.lt_of_le_of_lt (Nat.div_le_self _ _) hn
    have HE := hide_ (show n / 16 ^ (j + 1) = n / 16 ^ j / 16 by rw [Nat.div_div_eq_div_mul, Nat.pow_succ])
    have HLT := hide_ (fun h => hex_end (n := n) (j := j) h)
    generalize n / 16 ^ j = m at *
    have hmI : (m : Int) < 4294967296 := by omega
    have hd16 : m % 16 < 16 := Nat.mod_lt _ (by decide)
    have hgx := hx36 (m % 16) hd16
    have hb15 := and15_u64 m (by omega)
    by_cases hlt : 16 ≤ m
    · have hltI : (16 : Int) ≤ m := by omega
      have HM := hide_ (show ((m : Int) / 16) = ((m / 16 : Nat) : Int) by omega)
      generalize m % 16 = d at *
      have hd1 : (d : Int) < 16 := by omega
      have hd36 : (d : Int) < 36 := by omega
      have hk65 : (k : Int) < 65 := by omega
      go_wp2_with fail
      go_roundw
      case rel => exact ⟨j + 1, k - 1, by omega, by have := HSM.out hlt; omega, by rw [HE.out, HM.out], by congr 1; omega, HA.out⟩
      case measure => simp [intOf] <;> omega
    · have hltI : ¬ (16 : Int) ≤ m := by omega
      have hgx2 := hx36 m (by omega)
      rw [Nat.mod_eq_of_lt (show m < 16 by omega)] at HA
      have hk65 : (k : Int) < 65 := by omega
      have hd36 : (m : Int) < 36 := by omega
      have hsl := slice65 w.heap.size k (by omega)
      have hcv := run_convert_bytes_back (P := Tryd.prog) (wr.setCell ⟨w.heap.size, k, none⟩ (byteV (hd m))) 68 9 5 ⟨w.heap.size, k, none⟩ (65 - k) (hxL n (j + 1)) Tryd.underlying68 Tryd.underlying5 Tryd.underlying9 (fun p hp => by
        rw [Addr.add_lit]
        exact HA.out.bytes (by omega) p (by rw [hxL_len] at hp; exact hp))
      rw [hxL_len, show j + 1 = 65 - k by omega] at hcv
      rw [show 65 - k = j + 1 by omega] at hcv hsl
      unfold byteV at hcv
      have HA2 := hide_ HA.out.bel
      have HL := hide_ (HLT.out hlt)
      go_wp2_with fail
      go_ret2
      exact ⟨j + 1, by omega, by omega, HL.out, rfl, HA2.out⟩

end Go.Proofs.YticggbmmeefelaaDoor
