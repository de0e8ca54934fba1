/-
Hexadecimal digits: plain part; the digits of a number in the reference.
-/
import Derived.Test.YticggbmmeefelaaDoorNu
import Derived.Test.YticggbmmeefelaaDoorDa
import Derived.Carry
set_option linter.unusedVariables false
set_option linter.unusedSimpArgs false
namespace Go.Proofs.YticggbmmeefelaaDoor
open Fl Go Go.RowKit

/-- a hexadecimal digit -/
def hd (d : Nat) : UInt8 := if d < 10 then UInt8.ofNat (48 + d) else UInt8.ofNat (87 + d)
/-- the lowest hexadecimal digits of a number -/
def hxL : Nat → Nat → List UInt8
  | _, 0 => []
  | n, k + 1 => hxL (n / 16) k ++ [hd (n % 16)]
theorem hxL_len (n k : Nat) : (hxL n k).length = k := by
  induction k generalizing n with
  | zero => rfl
  | succ k ih => simp [hxL, ih]
theorem hxL_top (n k : Nat) : hxL n (k + 1) = hd (n / 16 ^ k % 16) :: hxL n k := by
  induction k generalizing n with
  | zero => simp [hxL]
  | succ k ih =>
    rw [hxL, ih (n / 16), hxL, Nat.div_div_eq_div_mul, Nat.pow_succ, Nat.mul_comm 16]
    rfl
theorem hxL_zero (n k : Nat) (h : n < 16 ^ k) (j : Nat) : hxL n (j + k) = List.replicate j 48 ++ hxL n k := by
  induction j with
  | zero => simp
  | succ j ih =>
    rw [show j + 1 + k = (j + k) + 1 by omega, hxL_top, ih, Nat.div_eq_of_lt (Nat.lt_of_lt_of_le h (Nat.pow_le_pow_right (by decide) (by omega)))]
    rfl
/-- the bits of a number, as a natural number -/
def nb (x : Nat) : Nat := (bitsOf x).toNat
theorem nb_eq {x : Nat} : bitsOf x = (nb x : Int) := by
  unfold nb bitsOf
  split
  · rfl
  · rfl
theorem nb_lt {x : Nat} (h : x < 4294967296) : nb x < 4294967296 := by
  unfold nb bitsOf
  split
  · simpa using h
  · decide
/-- the 8 digits of a number -/
def hex8 (x : Nat) : List UInt8 := hxL (nb x) 8

def hxS : ByteArray := ⟨#[48, 49, 50, 51, 52, 53, 54, 55, 56, 57, 97, 98, 99, 100, 101, 102]⟩
theorem hxS_at : ∀ d : Fin 16, hxS.data.toList[d.val]? = some (hd d.val) := by decide +kernel

theorem hxS_get (d : Nat) (h : d < 16) : hxS.data.toList[d]? = some (hd d) := hxS_at ⟨d, h⟩
theorem hx_byte (d : Nat) (h : d < 16) : (⟨#[48, 49, 50, 51, 52, 53, 54, 55, 56, 57, 97, 98, 99, 100, 101, 102]⟩ : ByteArray)[d]'h = hd d := by
  have := hxS_get d h
  rw [List.getElem?_eq_getElem (by exact h)] at this
  exact Option.some.inj this
theorem own_pos {w : World} {base : Nat} {t : TypeId} {n : Nat} {v : Value} {xs : List Value} (h : w.ownsRow base t 1 v n xs) (hp : 0 < n) : ∃ g c, v = .slice (some ⟨g, 0, none⟩) n c := by
  rcases h.2 with ⟨_, h0⟩ | ⟨g, cap, cur, hv, _⟩
  · omega
  · exact ⟨g, cap, hv⟩
theorem and15_i64 (m : Nat) (hm : m < 4294967296) : bits .and .i64 (m : Int) 15 = ((m % 16 : Nat) : Int) := by
  have h := i64_and_nat m 15 (by omega) (by decide)
  rw [show ((15 : Nat) : Int) = 15 from rfl] at h
  rw [h, show (15 : Nat) = 2 ^ 4 - 1 from rfl, Nat.and_two_pow_sub_one_eq_mod]
theorem hxL_up (n : Nat) {i : Nat} (h : i < 8) : hxL (n / 2 ^ (28 - 4 * i)) (i + 1) = hxL (n / 2 ^ (32 - 4 * i)) i ++ [hd (n / 2 ^ (28 - 4 * i) % 16)] := by
  rw [hxL, Nat.div_div_eq_div_mul, show (16 : Nat) = 2 ^ 4 from rfl, ← Nat.pow_add, show 28 - 4 * i + 4 = 32 - 4 * i by omega]
/-- the reference's list of digits under way -/
structure HS (w : World) (n : Nat) (i : Nat) (g cap : Nat) (wr : World) : Prop where
  own : wr.ownsRow w.heap.size 5 1 (.slice (some ⟨g, 0, none⟩) i cap) i ((hxL (n / 2 ^ (32 - 4 * i)) i).map byteV)
  bel : Below w.heap.size w wr

set_option maxRecDepth 100000 in
theorem c_l01Hex (x : Nat) (hx : x < 4294967296) (w : World) : Calls Tryd.prog 59 #[.float .f32 x] w fun e w' => e = .returned (.string ⟨(hex8 x).toArray⟩) ∧ Below w.heap.size w w' := by
  obtain ⟨i0, hi, hz0, hz1, hz2⟩ := info_parts infoB
  have HB := hide_ (c_l01Bits x hx)
  rw [nb_eq] at HB
  have hn := nb_lt hx
  have HX := hide_ (show hex8 x = hxL (nb x) 8 from rfl)
  generalize nb x = n at *
  go_enter Tryd.func59, Tryd.ntmps59
  go_wp2_with (go_at_call 68; refine (HB.out _).mono ?_; rintro e w' ⟨rfl, rfl⟩)
  go_loopw [4, 5] (fun out k wr => ∃ (i : Nat) (g cap : Nat), i ≤ 8 ∧ k = .int .i64 (28 - 4 * (i : Int)) ∧ out = .slice (some ⟨g, 0, none⟩) i cap ∧ HS w n i g cap wr) (fun out k wr => (intOf k + 4).toNat)
  case atStart => exact ⟨0, w.heap.size, 0, by omega, rfl, rfl, ⟨rfl, .inr ⟨w.heap.size, 0, #[], rfl, Nat.le_refl _, heap_alloc_new w _, Nat.le_refl _, by unfold maxLen; omega, rfl, rfl⟩⟩, (Below.refl _ _).alloc (Nat.le_refl _) _⟩
  case round =>
    obtain ⟨i, g, cap, hi8, rfl, rfl, R⟩ := hrel
    have HR := hide_ R
    clear R
    by_cases hlt : i < 8
    · have h1 : (0 : Int) ≤ 28 - 4 * (i : Int) := by omega
      obtain ⟨k, hk, hk2⟩ : ∃ k : Nat, (28 - 4 * (i : Int)) = (k : Int) ∧ k ≤ 28 := ⟨28 - 4 * i, by omega, by omega⟩
      have hkn : k = 28 - 4 * i := by omega
      have hm : (n : Int) / 2 ^ k = ((n / 2 ^ k : Nat) : Int) := by push_cast; rfl
      have hml : n / 2 ^ k < 4294967296 := Nat.lt_of_le_of_lt (Nat.div_le_self _ _) hn
      have HS := hide_ (hxL_up n hlt)
      rw [← hkn] at HS
      have HKN := hide_ hkn
      clear hkn
      generalize hmm : n / 2 ^ k = m at *
      have HMM := hide_ hmm
      clear hmm
      have hb15 := and15_i64 m hml
      have hd16 : m % 16 < 16 := Nat.mod_lt _ (by decide)
      generalize m % 16 = d at *
      have hgx := hx_byte d hd16
      rw [hk]
      have HK := hide_ hk
      clear hk
      have hsz := HR.out.bel.size
      have hd0 : (0 : Int) ≤ (d : Int) := by omega
      have hd1 : (d : Int) < 16 := by omega
      go_wp2_with (at_builtin; refine wpList_append_own_at _ rfl (.tmp 13) (.tmp 20) 68 rfl w.heap.size 5 i0 (.int .u8 0) 1 1 Tryd.underlying68 hi hz0 hz1 hz2 rfl (by decide) (.slice (some ⟨g, 0, none⟩) i cap) i _ rfl (World.ownsRow.alloc HR.out.own _) ⟨wr.heap.size, 0, none⟩ 1 1 [byteV (hd d)] rfl rfl (news_at _ _ _ rfl) (fun u hu => by simp at hu; subst hu; rfl) (by unfold maxLen; omega) (by omega) (by simp; omega) ?_; intro v' w3 hown hgrow hni hob; obtain ⟨g3, c3, rfl⟩ : ∃ g3 c3, v' = .slice (some ⟨g3, 0, none⟩) (i + 1) c3 := own_pos hown (by omega); have HO3 := hide_ hown; have HR3 := hide_ ((HR.out.bel.alloc hsz (Obj.cells #[byteV (hd d)] 5)).grown hgrow (by simp; omega) (fun q hq => (World.ownsRow.lt HR.out.own q hq).1)); clear hown hgrow hni hob)
      go_roundw
      case rel => exact ⟨i + 1, g3, c3, by omega, by congr 1; have := HK.out; omega, rfl, ⟨by have := HO3.out; rw [← List.map_singleton (f := byteV), ← List.map_append, ← HS.out, ← HMM.out, HKN.out] at this; rw [show 32 - 4 * (i + 1) = 28 - 4 * i by omega]; exact this, HR3.out⟩⟩
      case measure => simp [intOf] <;> omega
    · obtain rfl : i = 8 := by omega
      have hcv := run_convert_bytes_back (P := Tryd.prog) wr 68 9 5 ⟨g, 0, none⟩ cap (hxL n 8) Tryd.underlying68 Tryd.underlying5 Tryd.underlying9 (fun j hj => World.ownsRow.cells HR.out.own rfl j _ (by
        rw [hxL_len] at hj
        simp [byteV, hxL_len, hj]))
      rw [hxL_len] at hcv
      go_wp2_with fail
      go_ret
      exact ⟨by rw [HX.out]; rfl, HR.out.bel⟩

end Go.Proofs.YticggbmmeefelaaDoor
