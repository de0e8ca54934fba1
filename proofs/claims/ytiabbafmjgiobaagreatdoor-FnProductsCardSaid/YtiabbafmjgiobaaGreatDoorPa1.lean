/-
Parts of the proof, put together: Su Hu Ra Sj Dd Hp Rs Rg Sl Hq Hr Ca Cb Hv Ss Ri Sr Hi Op Hj Ht Cc. No condition.
-/
import Derived.Test.YtiabbafmjgiobaaGreatDoorPa0
import Derived.Shelf.LaysM
import Derived.Shelf.LaysC
import Derived.Shelf.Strconv.ToError
import Derived.Test.YtiabbafmjgiobaaGreatDoorProg
import Derived.Lib.ConvBytes
import Derived.Lib.AtoiAllMem
import Derived.Lib.Walk
import Derived.Laws.Strings3
import Derived.WalkKit
import Derived.BigCall
import Derived.BigGuard
import Derived.Lib.IndexAny
import Derived.Lib.SplitLaws
import Derived.Shelf.Strings.OnBuilder
import Derived.Laws.Concat
import Derived.Deep.Draws
import Derived.Orders
import Derived.OneCell
import Derived.Shelf.Strings.Split
import Derived.Shelf.Strings.Repeat
import Derived.ProofKit
import Derived.OpenShut
import Derived.Carry

/-
Contracts of Go's library at this program, in plain words (written by the kit's lay-shelf and lay-plain, the parts that are used here). No condition.
-/
namespace Go.Proofs
open Go.Shelf
def Tryz.laysC245_ren : Go.Shelf.Ren := ⟨fun | 245 => 93 | 279 => 108 | 280 => 109 | 281 => 110 | 282 => 111 | 316 => 123 | 171 => 125 | 205 => 124 | 243 => 133 | 246 => 84 | 283 => 94 | 284 => 95 | 285 => 96 | 286 => 97 | 129 => 113 | 317 => 112 | 318 => 114 | 319 => 115 | 320 => 116 | 337 => 126 | 338 => 127 | n => n, fun | 9 => 9 | 3 => 3 | 75 => 94 | 167 => 129 | 4 => 4 | 168 => 132 | 210 => 150 | 37 => 22 | 0 => 0 | 127 => 126 | 145 => 155 | 143 => 153 | 2 => 2 | 171 => 117 | 53 => 85 | 5 => 5 | 173 => 120 | 212 => 137 | 51 => 79 | 20 => 20 | 213 => 138 | 46 => 102 | 232 => 156 | 233 => 157 | 80 => 113 | n => n, fun | 15 => 2 | 16 => 3 | 17 => 1 | 18 => 5 | 19 => 6 | n => n⟩
theorem Tryz.laysC245 : Go.Proofs.LaysC.n245 Tryz.prog Tryz.laysC245_ren := {
  mixed := by kernel_rfl
  f129 := Tryz.func113.trans (congrArg some (by kernel_rfl))
  f171 := Tryz.func125.trans (congrArg some (by kernel_rfl))
  f205 := Tryz.func124.trans (congrArg some (by kernel_rfl))
  f243 := Tryz.func133.trans (congrArg some (by kernel_rfl))
  f245 := Tryz.func93.trans (congrArg some (by kernel_rfl))
  f246 := Tryz.func84.trans (congrArg some (by kernel_rfl))
  f279 := Tryz.func108.trans (congrArg some (by kernel_rfl))
  f280 := Tryz.func109.trans (congrArg some (by kernel_rfl))
  f281 := Tryz.func110.trans (congrArg some (by kernel_rfl))
  f282 := Tryz.func111.trans (congrArg some (by kernel_rfl))
  f283 := Tryz.func94.trans (congrArg some (by kernel_rfl))
  f284 := Tryz.func95.trans (congrArg some (by kernel_rfl))
  f285 := Tryz.func96.trans (congrArg some (by kernel_rfl))
  f286 := Tryz.func97.trans (congrArg some (by kernel_rfl))
  f316 := Tryz.func123.trans (congrArg some (by kernel_rfl))
  f317 := Tryz.func112.trans (congrArg some (by kernel_rfl))
  f318 := Tryz.func114.trans (congrArg some (by kernel_rfl))
  f319 := Tryz.func115.trans (congrArg some (by kernel_rfl))
  f320 := Tryz.func116.trans (congrArg some (by kernel_rfl))
  f337 := Tryz.func126.trans (congrArg some (by kernel_rfl))
  f338 := Tryz.func127.trans (congrArg some (by kernel_rfl))
  t0 := Tryz.underlying0
  a0 := Tryz.isAgg0
  z0 := Tryz.sizeOf0
  v0 := Tryz.zeroValue0
  t2 := Tryz.underlying2
  a2 := Tryz.isAgg2
  z2 := Tryz.sizeOf2
  v2 := Tryz.zeroValue2
  t3 := Tryz.underlying3
  a3 := Tryz.isAgg3
  z3 := Tryz.sizeOf3
  v3 := Tryz.zeroValue3
  t4 := Tryz.underlying4
  a4 := Tryz.isAgg4
  z4 := Tryz.sizeOf4
  v4 := Tryz.zeroValue4
  t5 := Tryz.underlying5
  a5 := Tryz.isAgg5
  z5 := Tryz.sizeOf5
  v5 := Tryz.zeroValue5
  t9 := Tryz.underlying9
  a9 := Tryz.isAgg9
  z9 := Tryz.sizeOf9
  v9 := Tryz.zeroValue9
  t20 := Tryz.underlying20
  a20 := Tryz.isAgg20
  z20 := Tryz.sizeOf20
  v20 := Tryz.zeroValue20
  t37 := Tryz.underlying22
  a37 := Tryz.isAgg22
  z37 := Tryz.sizeOf22
  v37 := Tryz.zeroValue22
  t46 := Tryz.underlying102
  a46 := Tryz.isAgg102
  z46 := Tryz.sizeOf102
  v46 := Tryz.zeroValue102
  t51 := Tryz.underlying79
  a51 := Tryz.isAgg79
  z51 := Tryz.sizeOf79
  v51 := Tryz.zeroValue79
  t53 := Tryz.underlying85
  a53 := Tryz.isAgg85
  z53 := Tryz.sizeOf85
  v53 := Tryz.zeroValue85
  t75 := Tryz.underlying94
  a75 := Tryz.isAgg94
  z75 := Tryz.sizeOf94
  v75 := Tryz.zeroValue94
  t127 := Tryz.underlying126
  a127 := Tryz.isAgg126
  z127 := Tryz.sizeOf126
  v127 := Tryz.zeroValue126
  t143 := Tryz.underlying153
  a143 := Tryz.isAgg153
  z143 := Tryz.sizeOf153
  v143 := Tryz.zeroValue153
  t145 := Tryz.underlying155
  a145 := Tryz.isAgg155
  z145 := Tryz.sizeOf155
  v145 := Tryz.zeroValue155
  t167 := Tryz.underlying129
  a167 := Tryz.isAgg129
  z167 := Tryz.sizeOf129
  v167 := Tryz.zeroValue129
  t168 := Tryz.underlying132
  a168 := Tryz.isAgg132
  z168 := Tryz.sizeOf132
  v168 := Tryz.zeroValue132
  t171 := Tryz.underlying117
  a171 := Tryz.isAgg117
  z171 := Tryz.sizeOf117
  v171 := Tryz.zeroValue117
  t173 := Tryz.underlying120
  a173 := Tryz.isAgg120
  z173 := Tryz.sizeOf120
  v173 := Tryz.zeroValue120
  t210 := Tryz.underlying150
  a210 := Tryz.isAgg150
  z210 := Tryz.sizeOf150
  v210 := Tryz.zeroValue150
  t212 := Tryz.underlying137
  a212 := Tryz.isAgg137
  z212 := Tryz.sizeOf137
  v212 := Tryz.zeroValue137
  t213 := Tryz.underlying138
  a213 := Tryz.isAgg138
  z213 := Tryz.sizeOf138
  t232 := Tryz.underlying156
  a232 := Tryz.isAgg156
  z232 := Tryz.sizeOf156
  v232 := Tryz.zeroValue156
  t233 := Tryz.underlying157
  a233 := Tryz.isAgg157
  z233 := Tryz.sizeOf157
  v233 := Tryz.zeroValue157
  g15 := by kernel_rfl
  g16 := by kernel_rfl
  g17 := by kernel_rfl
  g18 := by kernel_rfl
  g19 := by kernel_rfl
  t80 := Tryz.underlying113
  a80 := Tryz.isAgg113
  z80 := Tryz.sizeOf113
  v80 := Tryz.zeroValue113
  i0 := by kernel_rfl
  i2 := by kernel_rfl
  i3 := by kernel_rfl
  i4 := by kernel_rfl
  i5 := by kernel_rfl
  i9 := by kernel_rfl
  i20 := by kernel_rfl
  i37 := by kernel_rfl
  i46 := by kernel_rfl
  i51 := by kernel_rfl
  i53 := by kernel_rfl
  i75 := by kernel_rfl
  i80 := by kernel_rfl
  i127 := by kernel_rfl
  i143 := by kernel_rfl
  i145 := by kernel_rfl
  i167 := by kernel_rfl
  i168 := by kernel_rfl
  i171 := by kernel_rfl
  i173 := by kernel_rfl
  i210 := by kernel_rfl
  i212 := by kernel_rfl
  i232 := by kernel_rfl
  i233 := by kernel_rfl
  m15 := by kernel_rfl
  m16 := by kernel_rfl
  m17 := by kernel_rfl
  m18 := by kernel_rfl
  m19 := by kernel_rfl
  c0 := by kernel_rfl
  c2 := by kernel_rfl
  c3 := by kernel_rfl
  c4 := by kernel_rfl
  c5 := by kernel_rfl
  c9 := by kernel_rfl
  c20 := by kernel_rfl
  c37 := by kernel_rfl
  c46 := by kernel_rfl
  c51 := by kernel_rfl
  c53 := by kernel_rfl
  c75 := by kernel_rfl
  c80 := by kernel_rfl
  c127 := by kernel_rfl
  c143 := by kernel_rfl
  c145 := by kernel_rfl
  c167 := by kernel_rfl
  c168 := by kernel_rfl
  c171 := by kernel_rfl
  c173 := by kernel_rfl
  c210 := by kernel_rfl
  c212 := by kernel_rfl
  c213 := by kernel_rfl
  c232 := by kernel_rfl
  c233 := by kernel_rfl }
open Go.RowKit in
theorem Tryz.strconv_toError_syntax (fn s : ByteArray) (base bits : Int) (ev : Value) (w : World) (hlim : s.size ≤ 281474976710656) (hv : w.cell? ⟨2, 0, none⟩ = some ev) (hev : ev = .nilIface ∨ ∃ te pe, ev = .iface te pe) :
    Calls Tryz.prog 93 #[.string fn, .string s, .int .i64 base, .int .i64 bits, .iface 129 (.int .i64 2)] w fun e w' => ∃ N, e = .returned (.iface 132 (.pointer (some ⟨N, 0, none⟩))) ∧ w.heap.size ≤ N ∧ w'.heap[N]? = some (.cells #[.string fn, .string s, ev] 150 (0, 0)) ∧ Below w.heap.size w w' := Any.strconv_toError_syntax Tryz.laysC245 fn s base bits ev w hlim hv hev
end Go.Proofs

/-
strconv.ParseUint at base 16 and 32 bits, on texts of 8 bytes.
-/
set_option linter.unusedVariables false
set_option linter.unusedSimpArgs false
namespace Go.Proofs.YtiabbafmjgiobaaGreatDoor
open Fl Go Go.RowKit

/-- the value of a hexadecimal digit, small or great -/
def hv (c : Nat) : Option Nat := if 48 ≤ c ∧ c ≤ 57 then some (c - 48) else if 97 ≤ c ∧ c ≤ 102 then some (c - 87) else if 65 ≤ c ∧ c ≤ 70 then some (c - 55) else none
/-- the value of hexadecimal digits -/
def pz : Nat → List UInt8 → Option Nat
  | acc, [] => some acc
  | acc, c :: l => match hv c.toNat with
    | some d => pz (16 * acc + d) l
    | none => none
theorem hv_lt {c d : Nat} (h : hv c = some d) : d < 16 := by
  unfold hv at h
  split at h
  · cases h; omega
  · split at h
    · cases h; omega
    · split at h
      · cases h; omega
      · cases h
/-- where the small letter of a byte lies -/
theorem low_case : ∀ c : Fin 256, ¬ (48 ≤ c.val ∧ c.val ≤ 57) → ∃ m : Fin 256, bits .or .u8 (c.val : Int) 32 = (m.val : Int) ∧ ((97 ≤ m.val ∧ m.val ≤ 102 ∧ hv c.val = some (m.val - 87)) ∨ (103 ≤ m.val ∧ m.val ≤ 122 ∧ hv c.val = none) ∨ ((m.val < 97 ∨ 122 < m.val) ∧ hv c.val = none)) := by decide +kernel

def puTuple (r : Option Nat) : Value := match r with
  | some v => .tuple #[.int .u64 (v : Int), .nilIface]
  | none => .tuple #[.int .u64 0, .iface 129 (.int .i64 2)]

theorem c_lower (c : Int) (w : World) : Calls Tryz.prog 106 #[.int .u8 c] w fun e w' => e = .returned (.int .u8 (bits .or .u8 c 32)) ∧ w = w' := by
  go_enter Tryz.func106, Tryz.ntmps106
  go_wp2_with fail
  go_ret
  exact ⟨rfl, rfl⟩
set_option maxHeartbeats 8000000 in
set_option maxRecDepth 100000 in
theorem c_innerParse (t : ByteArray) (ht : t.size = 8) (w : World) :
    Calls Tryz.prog 92 #[.string t, .int .i64 16, .int .i64 32] w fun e w' => e = .returned (puTuple (pz 0 t.data.toList)) ∧ w' = Lib.bytesWorld w 5 t := by
  have hemp : t.toList.isEmpty = false := by
    rw [← decide_eq_emptyBytes]
    exact decide_eq_false (fun h => by rw [h] at ht; exact absurd ht (by decide))
  have hcv := Lib.run_convert_string_bytes (P := Tryz.prog) w 9 22 5 t (u := .string) Tryz.underlying9 Tryz.underlying22 Tryz.underlying5
  have hB : ∀ j, j < t.size → (Lib.bytesWorld w 5 t).cell? ⟨w.heap.size, j, none⟩ = some (.int .u8 (t.data.toList.getD j 0).toNat) := fun j hj => Lib.bytesWorld_cell w 5 t j hj
  obtain ⟨W1, hW1⟩ : ∃ W1, W1 = Lib.bytesWorld w 5 t := ⟨_, rfl⟩
  rw [← hW1] at hcv hB ⊢
  clear hW1
  obtain ⟨bs, hL⟩ : ∃ bs, bs = t.data.toList := ⟨_, rfl⟩
  have hLn : bs.length = t.size := by rw [hL, len_data]
  rw [← hL] at hB ⊢
  clear hL
  go_enter Tryz.func92, Tryz.ntmps92
  go_wp2
  go_loop [12, 13, 101] (fun vu vn vi => ∃ (k acc : Nat) (a : Int), vu = .bool false ∧ vn = .int .u64 a ∧ vi = .int .i64 k ∧ k ≤ t.size ∧ Hid (a = (acc : Int) ∧ acc < 16 ^ k ∧ pz 0 bs = pz acc (bs.drop k)))
    (fun _ _ vi => t.size - (intOf vi).toNat)
  case atStart => exact ⟨0, 0, 0, rfl, rfl, rfl, by omega, rfl, by decide, rfl⟩
  case round =>
    obtain ⟨k, acc, a, rfl, rfl, rfl, hk, hh⟩ := hrel
    obtain ⟨ha, hacc, hdec⟩ := hh.out
    clear hh
    have a0 : 0 ≤ a := by omega
    by_cases hkn : k < t.size
    · have hacc7 : acc < 268435456 := Nat.lt_of_lt_of_le hacc (Nat.le_trans (Nat.pow_le_pow_right (by decide) (show k ≤ 7 by omega)) (by decide))
      have a1 : a < 268435456 := by omega
      have hc := hB k hkn
      have hdrop : bs.drop k = bs[k]'(by omega) :: bs.drop (k + 1) := List.drop_eq_getElem_cons (by omega)
      have hget : bs.getD k 0 = bs[k]'(by omega) := by simp [List.getD, List.getElem?_eq_getElem (show k < bs.length by omega)]
      rw [hdrop] at hdec
      rw [hget] at hc
      generalize bs[k]'(by omega) = c at hc hdec
      have hc256 : c.toNat < 256 := c.toNat_lt
      clear hB hdrop hget
      by_cases hdig : 48 ≤ c.toNat ∧ c.toNat ≤ 57
      · obtain ⟨hd0, hd1⟩ := hdig
        have hv1 : hv c.toNat = some (c.toNat - 48) := by unfold hv; rw [if_pos ⟨hd0, hd1⟩]
        have hF : pz acc (c :: bs.drop (k + 1)) = pz (16 * acc + (c.toNat - 48)) (bs.drop (k + 1)) := by simp only [pz, hv1]
        have HN : Hid (a * 16 + ((c.toNat : Int) - 48) = ((16 * acc + (c.toNat - 48) : Nat) : Int) ∧ 16 * acc + (c.toNat - 48) < 16 ^ (k + 1) ∧ pz 0 bs = pz (16 * acc + (c.toNat - 48)) (bs.drop (k + 1))) := ⟨by omega, by rw [Nat.pow_succ]; omega, by rw [hdec, hF]⟩
        have iov : a * 16 + ((c.toNat : Int) - 48) < 4294967296 := by omega
        clear hacc hF hdec ha hv1
        go_wp2
        refine ⟨⟨k + 1, 16 * acc + (c.toNat - 48), a * 16 + ((c.toNat : Int) - 48), rfl, (by first | rfl | (congr 1; omega)), (by first | rfl | (congr 1; omega)), by omega, HN⟩, by simp [intOf]; omega⟩
      · obtain ⟨⟨m, hm⟩, hlow, hcase⟩ := low_case ⟨c.toNat, hc256⟩ hdig
        simp only at hlow hcase
        have HLo : Hid (∀ w, Calls Tryz.prog 106 #[.int .u8 (c.toNat : Int)] w fun e w' => e = .returned (.int .u8 (m : Int)) ∧ w = w') := by
          intro w
          have := c_lower (c.toNat : Int) w
          rw [hlow] at this
          exact this
        clear hlow
        have hnd : (c.toNat : Int) < 48 ∨ ((48 : Int) ≤ c.toNat ∧ (57 : Int) < c.toNat) := by omega
        have h95 : ((c.toNat : Int) == 95) = true ∨ ((c.toNat : Int) == 95) = false := by cases (c.toNat : Int) == 95 <;> simp
        clear hdig
        rcases hcase with ⟨m1, m2, hv1⟩ | ⟨m1, m2, hv1⟩ | ⟨m1, hv1⟩
        · have hF : pz acc (c :: bs.drop (k + 1)) = pz (16 * acc + (m - 87)) (bs.drop (k + 1)) := by simp only [pz, hv1]
          have HN : Hid (a * 16 + ((m : Int) - 97 + 10) = ((16 * acc + (m - 87) : Nat) : Int) ∧ 16 * acc + (m - 87) < 16 ^ (k + 1) ∧ pz 0 bs = pz (16 * acc + (m - 87)) (bs.drop (k + 1))) := ⟨by omega, by rw [Nat.pow_succ]; omega, by rw [hdec, hF]⟩
          have iov : a * 16 + ((m : Int) - 97 + 10) < 4294967296 := by omega
          have i97 : (97 : Int) ≤ m := by omega
          have i122 : (m : Int) ≤ 102 := by omega
          clear hacc hF hdec ha hv1 m1 m2
          generalize (c.toNat : Int) = ci at *
          rcases hnd with n1 | ⟨n1, n2⟩ <;> rcases h95 with n3 | n3
          all_goals
            go_wp2_with (go_at_call 106; refine (HLo.out _).mono ?_; rintro e w' ⟨rfl, rfl⟩)
            exact ⟨⟨k + 1, 16 * acc + (m - 87), _, rfl, rfl, (by first | rfl | (congr 1; omega)), by omega, HN⟩, by simp [intOf]; omega⟩
        · have hF : pz acc (c :: bs.drop (k + 1)) = none := by simp only [pz, hv1]
          have HD := hide_ (hdec.trans hF)
          have i97 : (97 : Int) ≤ m := by omega
          have i103 : (103 : Int) ≤ m := by omega
          have i122 : (m : Int) ≤ 122 := by omega
          clear hacc hF hdec ha hv1 m1 m2
          generalize (c.toNat : Int) = ci at *
          rcases hnd with n1 | ⟨n1, n2⟩ <;> rcases h95 with n3 | n3
          all_goals
            go_wp2_with (go_at_call 106; refine (HLo.out _).mono ?_; rintro e w' ⟨rfl, rfl⟩)
            go_ret2
            exact ⟨by rw [HD.out]; rfl, rfl⟩
        · have hF : pz acc (c :: bs.drop (k + 1)) = none := by simp only [pz, hv1]
          have HD := hide_ (hdec.trans hF)
          have i97 : (m : Int) < 97 ∨ ((97 : Int) ≤ m ∧ (122 : Int) < m) := by omega
          clear hacc hF hdec ha hv1 m1
          generalize (c.toNat : Int) = ci at *
          rcases i97 with i1 | ⟨i1, i2⟩ <;> rcases hnd with n1 | ⟨n1, n2⟩ <;> rcases h95 with n3 | n3
          all_goals
            go_wp2_with (go_at_call 106; refine (HLo.out _).mono ?_; rintro e w' ⟨rfl, rfl⟩)
            go_ret2
            exact ⟨by rw [HD.out]; rfl, rfl⟩
    · have hkk : k = t.size := by omega
      subst hkk
      have hF : pz acc (bs.drop t.size) = some acc := by rw [List.drop_eq_nil_of_le (by omega)]; rfl
      rw [hF] at hdec
      subst ha
      clear hacc hF a0
      have HD := hide_ hdec
      clear hdec
      go_wp2
      go_ret2
      exact ⟨by rw [HD.out]; rfl, rfl⟩

end Go.Proofs.YtiabbafmjgiobaaGreatDoor

/-
The pieces of a text between commas; lists of texts and lists of numbers in memory: plain part.
-/
set_option linter.unusedVariables false
set_option linter.unusedSimpArgs false
namespace Go.Proofs.YtiabbafmjgiobaaGreatDoor
open Go Go.RowKit

def comma : ByteArray := ⟨#[44]⟩
/-- the pieces of a text between commas -/
def sp (s : ByteArray) : List ByteArray := Lib.splitB comma 0 (Lib.countB s comma) s
theorem idx_eq (s : ByteArray) : Lib.indexB s comma = Lib.indexAny s.data.toList [44] := by
  show Lib.index s.data.toList [44] = _
  rw [Lib.index_one, ← Lib.indexAny_one]
def NoC (s : ByteArray) (a b : Nat) : Prop := ∀ j c, a ≤ j → j < b → s.data.toList[j]? = some c → c ≠ 44
theorem ex_data (s : ByteArray) (a : Nat) : (s.extract a s.size).data.toList = s.data.toList.drop a := by
  rw [Lib.extract_data, List.take_of_length_le]
  rw [List.length_drop, len_data]; exact Nat.le_refl _
theorem sp_miss (s : ByteArray) (a : Nat) (h : NoC s a s.size) : sp (s.extract a s.size) = [s.extract a s.size] := by
  unfold sp
  refine Lib.splitB_miss _ _ _ _ ?_
  rw [idx_eq]
  refine Lib.indexAny_none ?_
  rw [ex_data]
  intro j c hj hc
  rw [List.length_drop, len_data] at hj
  rw [List.getElem?_drop] at hc
  have := h (a + j) c (by omega) (by omega) hc
  simp [this]
theorem bext {a b : ByteArray} (h : a.data.toList = b.data.toList) : a = b := by
  cases a; cases b
  congr 1
  exact Array.toList_inj.1 h
theorem bext2 (s : ByteArray) (a i : Nat) (hi : a ≤ i) (hs : i ≤ s.size) : (s.extract a s.size).extract 0 (i - a + 0) = s.extract a i := by
  apply bext
  rw [Lib.extract_data, ex_data, Lib.extract_data, List.drop_zero, Nat.sub_zero, Nat.add_zero]
theorem bext3 (s : ByteArray) (a i : Nat) (hi : a ≤ i) : (s.extract a s.size).extract (i - a + comma.size) (s.extract a s.size).size = s.extract (i + 1) s.size := by
  apply bext
  rw [ex_data, ex_data, ex_data, List.drop_drop]
  congr 1
  show a + (i - a + 1) = i + 1
  omega
theorem sp_hit (s : ByteArray) (a i : Nat) (h : NoC s a i) (ha : a ≤ i) (hi : i < s.size) (hc : s.data.toList[i]? = some 44) : sp (s.extract a s.size) = s.extract a i :: sp (s.extract (i + 1) s.size) := by
  have hx : Lib.indexB (s.extract a s.size) comma = ((i - a : Nat) : Int) := by
    rw [idx_eq]
    refine Lib.indexAny_hit (x := 44) ?_ ?_ rfl
    · rw [ex_data]
      intro j c hj hc'
      rw [List.getElem?_drop] at hc'
      have := h (a + j) c (by omega) (by omega) hc'
      simp [this]
    · rw [ex_data, List.getElem?_drop, show a + (i - a) = i by omega]
      exact hc
  unfold sp
  rw [Lib.countB_hit _ _ (i - a) (by decide) hx, Nat.add_comm 1, Lib.splitB_hit _ _ _ _ _ hx, bext2 s a i ha (by omega), bext3 s a i ha]
theorem sp_len (s : ByteArray) : (sp s).length = Lib.countB s comma + 1 := Lib.splitB_all _ (by decide) _ _ _ rfl
theorem sp_le (s : ByteArray) : (sp s).length ≤ s.size + 1 := by
  rw [sp_len]
  have := Lib.countB_le comma (by decide) s.size s (Nat.le_refl _)
  omega
theorem ex_all (s : ByteArray) : s.extract 0 s.size = s := by
  apply bext
  rw [ex_data, List.drop_zero]
/-- where a cut of a text stands: 'done' pieces lie behind, the next one begins at a, the bytes up to i are no comma; or all is done -/
def CutAt (s : ByteArray) (done : List ByteArray) (a i : Nat) : Prop :=
  (a ≤ i ∧ i ≤ s.size ∧ done.length ≤ a ∧ sp s = done ++ sp (s.extract a s.size) ∧ NoC s a i) ∨ (i = s.size + 1 ∧ done = sp s ∧ a = s.size + 1)
theorem CutAt.zero (s : ByteArray) : CutAt s [] 0 0 := .inl ⟨Nat.le_refl _, Nat.zero_le _, Nat.le_refl _, by rw [ex_all]; rfl, fun j c h1 h2 => absurd h2 (by omega)⟩
theorem CutAt.last {s : ByteArray} {done : List ByteArray} {a : Nat} (h : CutAt s done a s.size) : a ≤ s.size ∧ done.length ≤ a ∧ CutAt s (done ++ [s.extract a s.size]) (s.size + 1) (s.size + 1) := by
  rcases h with ⟨h1, h2, h3, h4, h5⟩ | ⟨h1, _⟩
  · refine ⟨h1, h3, .inr ⟨rfl, ?_, rfl⟩⟩
    rw [h4, sp_miss s a h5]
  · omega
theorem CutAt.hit {s : ByteArray} {done : List ByteArray} {a i : Nat} (h : CutAt s done a i) (hi : i < s.size) (hc : s[i] = 44) : a ≤ i ∧ done.length ≤ a ∧ CutAt s (done ++ [s.extract a i]) (i + 1) (i + 1) := by
  rcases h with ⟨h1, h2, h3, h4, h5⟩ | ⟨h1, _⟩
  · refine ⟨h1, h3, .inl ⟨Nat.le_refl _, by omega, by simp; omega, ?_, fun j c h1 h2 => absurd h2 (by omega)⟩⟩
    rw [h4, sp_hit s a i h5 h1 hi (by rw [← hc]; exact List.getElem?_eq_getElem (by rw [len_data]; exact hi))]
    simp
  · omega
theorem CutAt.miss {s : ByteArray} {done : List ByteArray} {a i : Nat} (h : CutAt s done a i) (hi : i < s.size) (hc : ¬ s[i] = 44) : CutAt s done a (i + 1) := by
  rcases h with ⟨h1, h2, h3, h4, h5⟩ | ⟨h1, _⟩
  · refine .inl ⟨by omega, by omega, h3, h4, fun j c g1 g2 g3 => ?_⟩
    by_cases e : j = i
    · subst e
      rw [List.getElem?_eq_getElem (by rw [len_data]; exact hi)] at g3
      cases g3
      exact hc
    · exact h5 j c g1 (by omega) g3
  · omega
theorem CutAt.le {s : ByteArray} {done : List ByteArray} {a i : Nat} (h : CutAt s done a i) : i ≤ s.size + 1 := by
  rcases h with ⟨h1, h2, _⟩ | ⟨h1, _⟩ <;> omega
theorem CutAt.fin {s : ByteArray} {done : List ByteArray} {a i : Nat} (h : CutAt s done a i) (hi : ¬ i ≤ s.size) : done = sp s := by
  rcases h with ⟨h1, h2, _⟩ | ⟨h1, h2, _⟩
  · omega
  · exact h2

/-- "none" -/
def isNo (s : ByteArray) : Bool := s.data.toList == [110, 111, 110, 101]
def rP (s : ByteArray) : Bool := readP s.data.toList
def rN (s : ByteArray) : Int := readN s.data.toList
/-- has a text a list -/
def numB (s : ByteArray) : Bool := isNo s || (decide ((sp s).length ≤ 64) && (sp s).all rP)
def numL (s : ByteArray) : List Int := if isNo s then [] else if numB s then (sp s).map rN else []
theorem num_none {s : ByteArray} (h : isNo s = true) : numB s = true ∧ numL s = [] := by
  unfold numB numL
  rw [h]
  exact ⟨rfl, rfl⟩
theorem num_long {s : ByteArray} (h : isNo s = false) (hl : ¬ (sp s).length ≤ 64) : numB s = false ∧ numL s = [] := by
  have : numB s = false := by unfold numB; rw [h, decide_eq_false hl]; rfl
  unfold numL
  rw [h, this]
  exact ⟨rfl, rfl⟩
theorem num_bad {s : ByteArray} {k : Nat} (h : isNo s = false) (hk : k < (sp s).length) (hr : rP ((sp s).getD k default) = false) : numB s = false ∧ numL s = [] := by
  have e : (sp s).getD k default = (sp s)[k] := by simp [List.getD_eq_getElem?_getD, hk]
  have ha : (sp s).all rP = false := by
    rw [List.all_eq_false]
    exact ⟨(sp s)[k], List.getElem_mem hk, by rw [← e, hr]; decide⟩
  have : numB s = false := by unfold numB; rw [h, ha]; simp
  unfold numL
  rw [h, this]
  exact ⟨rfl, rfl⟩
theorem num_good {s : ByteArray} (h : isNo s = false) (hl : (sp s).length ≤ 64) (hr : ∀ k, k < (sp s).length → rP ((sp s).getD k default) = true) : numB s = true ∧ numL s = (sp s).map rN := by
  have ha : (sp s).all rP = true := by
    rw [List.all_eq_true]
    intro x hx
    obtain ⟨k, hk, rfl⟩ := List.getElem_of_mem hx
    have e : (sp s).getD k default = (sp s)[k] := by simp [List.getD_eq_getElem?_getD, hk]
    rw [← e]; exact hr k hk
  have : numB s = true := by unfold numB; rw [h, ha, decide_eq_true hl]; rfl
  unfold numL
  rw [h, this]
  exact ⟨rfl, rfl⟩
theorem num_len (s : ByteArray) : (numL s).length ≤ 64 := by
  unfold numL
  split
  · simp
  · split
    · rename_i h1 h2
      unfold numB at h2
      simp only [Bool.or_eq_true, Bool.and_eq_true, decide_eq_true_eq] at h2
      rcases h2 with h2 | h2
      · exact absurd h2 h1
      · simpa using h2.1
    · simp

/-- a list of numbers that was made from block 'base' on -/
def OwnI (base : Nat) (xs : List Int) (v : Value) (w : World) : Prop :=
  ∃ A cap, v = .slice A xs.length cap ∧ w.ownsRow base 2 1 v xs.length (xs.map (Value.int .i64))
theorem own_keep {w w' : World} {base : Nat} {e : TypeId} {size n : Nat} {v : Value} {xs : List Value} (h : w.ownsRow base e size v n xs) (hb : Below w.heap.size w w') : w'.ownsRow base e size v n xs := by
  obtain ⟨hl, hr⟩ := h
  refine ⟨hl, ?_⟩
  rcases hr with hr | ⟨g, cp, cur, hv, hg, hh, hr⟩
  · exact .inl hr
  · exact .inr ⟨g, cp, cur, hv, hg, by rw [hb.block g (Array.getElem?_eq_some_iff.1 hh).1]; exact hh, hr⟩
theorem own_form {w : World} {base : Nat} {e : TypeId} {size n : Nat} {v : Value} {xs : List Value} (h : w.ownsRow base e size v n xs) : ∃ A c, v = .slice A n c := by
  rcases h.2 with ⟨rfl, rfl⟩ | ⟨g, cp, cur, hv, _⟩
  · exact ⟨_, _, rfl⟩
  · exact ⟨_, _, hv⟩
theorem OwnI.keep {base : Nat} {xs : List Int} {v : Value} {w w' : World} (h : OwnI base xs v w) (hb : Below w.heap.size w w') : OwnI base xs v w' := by
  obtain ⟨A, cap, rfl, h1⟩ := h
  exact ⟨A, cap, rfl, own_keep h1 hb⟩
theorem OwnI.nil (base : Nat) (w : World) : OwnI base [] (.slice none 0 0) w := ⟨none, 0, rfl, rfl, .inl ⟨rfl, rfl⟩⟩
theorem OwnI.fi {base : Nat} {xs : List Int} {v : Value} {w : World} (h : OwnI base xs v w) : ∃ A cap, v = .slice A xs.length cap ∧ Fi w A xs := by
  obtain ⟨A, cap, rfl, h1, h2⟩ := h
  refine ⟨A, cap, rfl, ?_⟩
  rcases h2 with ⟨hv, hn⟩ | ⟨g, cp, cur, hv, hb, hh, hr⟩
  · exact .inl (List.eq_nil_of_length_eq_zero hn)
  · simp only [Value.slice.injEq] at hv
    obtain ⟨rfl, _, rfl⟩ := hv
    refine .inr ⟨g, 0, rfl, (Array.getElem?_eq_some_iff.1 hh).1, fun j hj => ?_⟩
    have ho : w.ownsRow base 2 1 (.slice (some ⟨g, 0, none⟩) xs.length cap) xs.length (xs.map (Value.int .i64)) := ⟨h1, .inr ⟨g, cap, cur, rfl, hb, hh, hr⟩⟩
    rw [Nat.zero_add, ho.cellAt j (by omega), List.getElem?_map, List.getElem?_eq_getElem hj]
    simp [List.getD_eq_getElem?_getD, hj]

/-- the cells behind an address hold texts -/
def Fs (w : World) (A : Option Addr) (xs : List ByteArray) : Prop :=
  xs = [] ∨ ∃ b off, A = some ⟨b, off, none⟩ ∧ b < w.heap.size ∧ ∀ j, j < xs.length → w.cell? ⟨b, off + j, none⟩ = some (.string (xs.getD j default))
theorem Fs.keep {B : Nat} {w w' : World} {A : Option Addr} {xs : List ByteArray} (h : Fs w A xs) (hb : Below B w w') (hB : w.heap.size ≤ B) : Fs w' A xs := by
  rcases h with rfl | ⟨b, off, rfl, hbl, hc⟩
  · exact .inl rfl
  · exact .inr ⟨b, off, rfl, Nat.lt_of_lt_of_le hbl hb.size, fun j hj => by rw [hb.cell (p := ⟨b, off + j, none⟩) (by show b < B; omega)]; exact hc j hj⟩
theorem Fs.of_pos {w : World} {A : Option Addr} {xs : List ByteArray} (h : Fs w A xs) (hp : 0 < xs.length) : ∃ b off, A = some ⟨b, off, none⟩ ∧ b < w.heap.size ∧ ∀ j, j < xs.length → w.cell? ⟨b, off + j, none⟩ = some (.string (xs.getD j default)) := by
  rcases h with rfl | h
  · cases hp
  · exact h
theorem Fs.of_own {base n : Nat} {xs : List ByteArray} {A : Option Addr} {cap : Nat} {w : World} (h : w.ownsRow base 9 1 (.slice A n cap) n (xs.map Value.string)) (hn : n = xs.length) : Fs w A xs := by
  subst hn
  rcases h.2 with ⟨hv, hn⟩ | ⟨g, cp, cur, hv, hb, hh, hr⟩
  · exact .inl (List.eq_nil_of_length_eq_zero hn)
  · simp only [Value.slice.injEq] at hv
    obtain ⟨rfl, _, rfl⟩ := hv
    refine .inr ⟨g, 0, rfl, (Array.getElem?_eq_some_iff.1 hh).1, fun j hj => ?_⟩
    rw [Nat.zero_add, h.cellAt j (by omega), List.getElem?_map, List.getElem?_eq_getElem hj]
    simp [List.getD_eq_getElem?_getD, hj]
/-- an address that lies in no block numbered g -/
def NotAt (A : Option Addr) (g : Nat) : Prop := ∀ b off, A = some ⟨b, off, none⟩ → b ≠ g
theorem Fs.grown {w w' : World} {A : Option Addr} {xs : List ByteArray} {g : Nat} (h : Fs w A xs) (hg : w.grownBy w' (some g)) (hn : NotAt A g) : Fs w' A xs := by
  rcases h with rfl | ⟨b, off, rfl, hbl, hc⟩
  · exact .inl rfl
  · refine .inr ⟨b, off, rfl, Nat.lt_of_lt_of_le hbl hg.size, fun j hj => ?_⟩
    rw [← hc j hj]
    have := hg.block b hbl (fun e => hn b off rfl (Option.some.inj e))
    unfold World.cell?
    simp only [this]
theorem NotAt.own {base n : Nat} {xs : List Value} {A : Option Addr} {cap : Nat} {w : World} {t : TypeId} (h : w.ownsRow base t 1 (.slice A n cap) n xs) {g : Nat} (hg : g < base) : NotAt A g := by
  intro b off e
  subst e
  rcases h.2 with ⟨hv, hn⟩ | ⟨g', cp, cur, hv, hb, hh, hr⟩
  · cases hv
  · simp only [Value.slice.injEq, Option.some.injEq, Addr.mk.injEq] at hv
    omega
/-- how a list reads: some of its pieces are read, the numbers lie in a list of the call's own -/
theorem map_snoc (s : ByteArray) {k : Nat} (hk : k < (sp s).length) : ((sp s).take k).map rN ++ [rN ((sp s).getD k default)] = ((sp s).take (k + 1)).map rN := by
  have e : (sp s).getD k default = (sp s)[k] := by simp [List.getD_eq_getElem?_getD, hk]
  rw [List.take_succ_eq_append_getElem hk, List.map_append, e]
  rfl
theorem piece_le (s : ByteArray) : ∀ p ∈ sp s, p.size ≤ s.size := by
  unfold sp
  generalize Lib.countB s comma = n
  induction n generalizing s with
  | zero => intro p hp; simp [Lib.splitB] at hp; subst hp; exact Nat.le_refl _
  | succ n ih =>
    intro p hp
    unfold Lib.splitB at hp
    split at hp
    · simp at hp; subst hp; exact Nat.le_refl _
    · simp only [List.mem_cons] at hp
      rcases hp with rfl | hp
      · rw [ByteArray.size_extract]; omega
      · have := ih _ p hp
        rw [ByteArray.size_extract] at this
        omega
theorem piece_at (s : ByteArray) {k : Nat} (hk : k < (sp s).length) : ((sp s).getD k default).size ≤ s.size := by
  have e : (sp s).getD k default = (sp s)[k] := by simp [List.getD_eq_getElem?_getD, hk]
  rw [e]
  exact piece_le s _ (List.getElem_mem hk)

end Go.Proofs.YtiabbafmjgiobaaGreatDoor

/-
Contracts of Go's library at this program, in plain words (written by the kit's lay-shelf and lay-plain, the parts that are used here). No condition.
-/
namespace Go.Proofs
open Go.Shelf
def Tryz.lays156_ren : Go.Shelf.Ren := ⟨fun | 156 => 74 | 165 => 87 | 166 => 88 | 169 => 90 | 240 => 101 | 241 => 102 | 276 => 117 | 277 => 118 | n => n, fun | 31 => 69 | 9 => 9 | 3 => 3 | 4 => 4 | 0 => 0 | 20 => 20 | 72 => 108 | 76 => 110 | 70 => 106 | 37 => 22 | 75 => 94 | 127 => 126 | 164 => 141 | 5 => 5 | 80 => 113 | n => n, fun | n => n⟩
theorem Tryz.lays156 : Go.Proofs.Lays.n156 Tryz.prog Tryz.lays156_ren := {
  mixed := by kernel_rfl
  f156 := Tryz.func74.trans (congrArg some (by kernel_rfl))
  f165 := Tryz.func87.trans (congrArg some (by kernel_rfl))
  f166 := Tryz.func88.trans (congrArg some (by kernel_rfl))
  f169 := Tryz.func90.trans (congrArg some (by kernel_rfl))
  f240 := Tryz.func101.trans (congrArg some (by kernel_rfl))
  f241 := Tryz.func102.trans (congrArg some (by kernel_rfl))
  f276 := Tryz.func117.trans (congrArg some (by kernel_rfl))
  f277 := Tryz.func118.trans (congrArg some (by kernel_rfl))
  t0 := Tryz.underlying0
  a0 := Tryz.isAgg0
  z0 := Tryz.sizeOf0
  v0 := Tryz.zeroValue0
  t3 := Tryz.underlying3
  a3 := Tryz.isAgg3
  z3 := Tryz.sizeOf3
  v3 := Tryz.zeroValue3
  t4 := Tryz.underlying4
  a4 := Tryz.isAgg4
  z4 := Tryz.sizeOf4
  v4 := Tryz.zeroValue4
  t9 := Tryz.underlying9
  a9 := Tryz.isAgg9
  z9 := Tryz.sizeOf9
  v9 := Tryz.zeroValue9
  t20 := Tryz.underlying20
  a20 := Tryz.isAgg20
  z20 := Tryz.sizeOf20
  v20 := Tryz.zeroValue20
  t31 := Tryz.underlying69
  a31 := Tryz.isAgg69
  z31 := Tryz.sizeOf69
  v31 := Tryz.zeroValue69
  t37 := Tryz.underlying22
  a37 := Tryz.isAgg22
  z37 := Tryz.sizeOf22
  v37 := Tryz.zeroValue22
  t70 := Tryz.underlying106
  a70 := Tryz.isAgg106
  z70 := Tryz.sizeOf106
  v70 := Tryz.zeroValue106
  t72 := Tryz.underlying108
  a72 := Tryz.isAgg108
  z72 := Tryz.sizeOf108
  v72 := Tryz.zeroValue108
  t75 := Tryz.underlying94
  a75 := Tryz.isAgg94
  z75 := Tryz.sizeOf94
  v75 := Tryz.zeroValue94
  t76 := Tryz.underlying110
  a76 := Tryz.isAgg110
  z76 := Tryz.sizeOf110
  v76 := Tryz.zeroValue110
  t127 := Tryz.underlying126
  a127 := Tryz.isAgg126
  z127 := Tryz.sizeOf126
  v127 := Tryz.zeroValue126
  t164 := Tryz.underlying141
  a164 := Tryz.isAgg141
  z164 := Tryz.sizeOf141
  v164 := Tryz.zeroValue141 }
theorem Tryz.Builder_Extra_156 : Builder.Extra Tryz.prog Tryz.lays156_ren := {
  sizeBuilder := by kernel_rfl
  liesBuilder := by kernel_rfl
  t5 := Tryz.underlying5
  a5 := Tryz.isAgg5
  z5 := Tryz.sizeOf5
  v5 := Tryz.zeroValue5
  infoByte := by kernel_rfl
  cellsByte := by kernel_rfl
  sizeByte := by kernel_rfl
  neB5 := by decide }
open Go.RowKit in
theorem Tryz.strings_Join (bk o c : Nat) (xs : List ByteArray) (sep : ByteArray) (w : World) (hcells : ∀ (j : Nat) x, xs[j]? = some x → w.cell? ⟨bk, o + j, none⟩ = some (.string x)) (hbk : bk < w.heap.size) (hN : xs.length ≤ 140737488355328) (hcap : xs.length ≤ c) (hlen : (Lib.join (xs.map (·.data.toList)) sep.data.toList).length ≤ 140737488355328) :
    Calls Tryz.prog 74 #[.slice (some ⟨bk, o, none⟩) xs.length c, .string sep] w fun e w' => e = .returned (.string ⟨(Lib.join (xs.map (·.data.toList)) sep.data.toList).toArray⟩) ∧ Below w.heap.size w w' := Any.strings_Join Tryz.lays156 Tryz.Builder_Extra_156 bk o c xs sep w hcells hbk hN hcap hlen
end Go.Proofs

/-
The text of a list of integers in both packages.
-/
set_option linter.unusedVariables false
set_option linter.unusedSimpArgs false
namespace Go.Proofs.YtiabbafmjgiobaaGreatDoor
open Go Go.RowKit

/-- pieces with commas between them; "none" if there are none -/
def textL (ds : List (List UInt8)) : List UInt8 := if ds = [] then [110, 111, 110, 101] else Lib.join ds [44]
theorem join_snoc {ds : List (List UInt8)} {k : Nat} {d : List UInt8} (hk : 1 ≤ k) (hd : ds[k]? = some d) : Lib.join (ds.take (k + 1)) [44] = Lib.join (ds.take k) [44] ++ 44 :: d := by
  cases ds with
  | nil => simp at hd
  | cons x r =>
    obtain ⟨j, rfl⟩ : ∃ j, k = j + 1 := ⟨k - 1, by omega⟩
    simp only [List.getElem?_cons_succ] at hd
    rw [List.take_succ_cons, List.take_succ_cons, Lib.join_cons, Lib.join_cons, Lib.joinTail_take_succ _ _ _ _ hd]
    simp
theorem join_first {ds : List (List UInt8)} {d : List UInt8} (hd : ds[0]? = some d) : Lib.join (ds.take 1) [44] = d := by
  cases ds with
  | nil => simp at hd
  | cons x r => simp at hd; subst hd; simp [Lib.join_one]
theorem join_bound {B : Nat} : ∀ {ds : List (List UInt8)}, (∀ d ∈ ds, d.length ≤ B) → (Lib.join ds [44]).length ≤ (B + 1) * ds.length := by
  intro ds h
  cases ds with
  | nil => simp [Lib.join_nil]
  | cons x r =>
    rw [Lib.join_cons]
    have hx := h x (by simp)
    have hr : ∀ (r : List (List UInt8)), (∀ d ∈ r, d.length ≤ B) → (Lib.joinTail [44] r).length ≤ (B + 1) * r.length := by
      intro r
      induction r with
      | nil => intro _; simp [Lib.joinTail]
      | cons y r ih =>
        intro h
        have hy := h y (by simp)
        have := ih (fun d hd => h d (by simp [hd]))
        simp only [Lib.joinTail, List.map_cons, List.flatten_cons, List.length_append, List.length_cons, List.length_nil] at this ⊢
        rw [Nat.mul_add]
        omega
    have := hr r (fun d hd => h d (by simp [hd]))
    rw [List.length_append, List.length_cons, Nat.mul_add]
    omega
theorem itoa_len {n : Int} (h0 : -9223372036854775808 ≤ n) (h1 : n ≤ 9223372036854775807) : (Lib.itoa n).length ≤ 21 := by
  unfold Lib.itoa
  split
  · have := dig_len 19 n.natAbs (Nat.lt_of_le_of_lt (show n.natAbs ≤ 9223372036854775808 by omega) (by decide))
    simp; omega
  · have := dig_len 19 n.toNat (Nat.lt_of_le_of_lt (show n.toNat ≤ 9223372036854775808 by omega) (by decide))
    omega
theorem cat3 (T l : List UInt8) : (⟨T.toArray⟩ ++ (⟨#[44]⟩ ++ ⟨l.toArray⟩) : ByteArray) = ⟨(T ++ 44 :: l).toArray⟩ := by
  apply ByteArray.ext
  simp [ByteArray.data_append]
theorem cat2 (T l : List UInt8) : (⟨T.toArray⟩ ++ ⟨l.toArray⟩ : ByteArray) = ⟨(T ++ l).toArray⟩ := by
  apply ByteArray.ext
  simp [ByteArray.data_append]
theorem add_lists (x y : List UInt8) (h : x.length + y.length ≤ 9223372036854775807) (w : World) : (Op.stringOp .add ⟨x.toArray⟩ ⟨y.toArray⟩).run Tryz.prog w = .ok (.string ⟨(x ++ y).toArray⟩) w := by
  rw [run_string_add_sum w _ _ (by simpa [ByteArray.size] using h), ByteArray.mk_append_mk]


theorem infoS : (Tryz.prog.info? 9).map (fun i => (i.zero, i.size, i.bytes)) = some (some (.string ByteArray.empty), 1, 16) := by kernel_rfl
def strV (d : List UInt8) : Value := .string ⟨d.toArray⟩

theorem c_joined (base : Nat) (ds : List (List UInt8)) (v : Value) (w : World) (h : w.ownsRow base 9 1 v ds.length (ds.map strV)) (hB : ∀ d ∈ ds, d.length ≤ 100) (hn : ds.length ≤ 1048576) :
    Calls Tryz.prog 48 #[v] w fun e w' => e = .returned (.string ⟨(textL ds).toArray⟩) ∧ Below w.heap.size w w' := by
  by_cases hp : 0 < ds.length
  · obtain ⟨g, cap, rfl⟩ : ∃ g cap, v = .slice (some ⟨g, 0, none⟩) ds.length cap := by
      rcases h.2 with ⟨_, h0⟩ | ⟨g, cap, cur, hv, _⟩
      · omega
      · exact ⟨g, cap, hv⟩
    have hlen := join_bound hB
    have hcap : ds.length ≤ cap := by
      rcases h.2 with ⟨h0, _⟩ | ⟨g', cap', cur, hv, _, _, hc, _⟩
      · cases h0
      · simp only [Value.slice.injEq] at hv
        obtain ⟨_, _, rfl⟩ := hv
        exact hc
    have hmap : (ds.map fun d => (⟨d.toArray⟩ : ByteArray)).map (·.data.toList) = ds := by rw [List.map_map]; simp [Function.comp_def]
    have J := Tryz.strings_Join g 0 cap (ds.map fun d => (⟨d.toArray⟩ : ByteArray)) ⟨#[44]⟩ w (fun j x hx => by
      rw [Nat.zero_add]
      have := h.cells (g := g) rfl j (.string x) (by
        simp only [List.getElem?_map, Option.map_eq_some_iff] at hx ⊢
        obtain ⟨d, hd, rfl⟩ := hx
        exact ⟨d, hd, rfl⟩)
      have hadd : (⟨g, 0, none⟩ : Addr).add j = ⟨g, j, none⟩ := by unfold Addr.add; split <;> simp_all
      rw [hadd] at this
      exact this) (h.lt g rfl).2 (by simp; omega) (by simpa using hcap) (by rw [hmap]; simp only [List.toList_toArray] at *; omega)
    rw [hmap, List.length_map] at J
    have HJ := hide_ J
    have HT : Hid (textL ds = Lib.join ds [44]) := by
      unfold textL
      rw [if_neg (fun h => by subst h; cases hp)]; rfl
    have hne : ((ds.length : Int) == 0) = false := beq_eq_false_iff_ne.2 (by omega)
    clear J h hB hlen hmap
    go_enter Tryz.func48, Tryz.ntmps48
    go_wp2_with fail
    go_at_call 74
    refine Calls.mono HJ.out ?_
    rintro e w1 ⟨rfl, hB1⟩
    go_wp2_with fail
    go_ret
    exact ⟨by rw [HT.out]; rfl, hB1⟩
  · obtain rfl : ds = [] := List.eq_nil_of_length_eq_zero (by omega)
    obtain ⟨A, cap, rfl⟩ : ∃ A cap, v = .slice A 0 cap := by
      rcases h.2 with ⟨hv, _⟩ | ⟨g, cap, cur, hv, _⟩
      · exact ⟨_, _, hv⟩
      · exact ⟨_, _, hv⟩
    clear h hB
    go_enter Tryz.func48, Tryz.ntmps48
    go_wp2_with fail
    go_ret
    exact ⟨rfl, Below.refl _ _⟩


end Go.Proofs.YtiabbafmjgiobaaGreatDoor

/-
Texts of lists of numbers read back: plain part.
-/
set_option linter.unusedVariables false
set_option linter.unusedSimpArgs false
namespace Go.Proofs.YtiabbafmjgiobaaGreatDoor
open Fl Go Go.RowKit

def lv (c : Nat) : Option Nat := if 48 ≤ c ∧ c ≤ 57 then some (c - 48) else if 97 ≤ c ∧ c ≤ 102 then some (c - 87) else none
/-- the value of small hexadecimal digits -/
def sv : Nat → List UInt8 → Option Nat
  | acc, [] => some acc
  | acc, c :: l => match lv c.toNat with
    | some d => sv (16 * acc + d) l
    | none => none
theorem lv_hv {c d : Nat} (h : lv c = some d) : hv c = some d := by
  unfold lv at h
  unfold hv
  split at h
  · rename_i h1; rw [if_pos h1]; exact h
  · rename_i h1
    rw [if_neg h1]
    split at h
    · rename_i h2; rw [if_pos h2]; exact h
    · cases h
theorem sv_pz : ∀ {l : List UInt8} {acc n : Nat}, sv acc l = some n → pz acc l = some n
  | [], acc, n, h => h
  | c :: l, acc, n, h => by
    unfold sv at h
    unfold pz
    cases hl : lv c.toNat with
    | none => rw [hl] at h; cases h
    | some d =>
      rw [hl] at h
      rw [lv_hv hl]
      exact sv_pz h
theorem lv_hd256 : ∀ c : Fin 256, ∀ d : Fin 16, lv c.val = some d.val → c.val = (hd d.val).toNat := by decide +kernel
theorem lv_lt {c d : Nat} (h : lv c = some d) : d < 16 := hv_lt (lv_hv h)
theorem lv_hd {c : UInt8} {d : Nat} (h : lv c.toNat = some d) : c = hd d :=
  UInt8.toNat.inj (lv_hd256 ⟨c.toNat, c.toNat_lt⟩ ⟨d, lv_lt h⟩ h)
theorem hd_lv16 : ∀ d : Fin 16, lv (hd d.val).toNat = some d.val := by decide +kernel
theorem sv_hxL : ∀ {l : List UInt8} {acc n : Nat}, sv acc l = some n → l = hxL n l.length ∧ n / 16 ^ l.length = acc
  | [], acc, n, h => by cases h; exact ⟨rfl, by simp⟩
  | c :: l, acc, n, h => by
    unfold sv at h
    cases hl : lv c.toNat with
    | none => rw [hl] at h; cases h
    | some d =>
      rw [hl] at h
      obtain ⟨h1, h2⟩ := sv_hxL h
      have hd16 := lv_lt hl
      refine ⟨?_, ?_⟩
      · rw [List.length_cons, hxL_top, h2, ← h1, lv_hd hl]
        congr 2
        omega
      · rw [List.length_cons, Nat.pow_succ, ← Nat.div_div_eq_div_mul, h2]
        omega
theorem hxL_sv : ∀ (k acc n : Nat), sv acc (hxL n k) = some (acc * 16 ^ k + n % 16 ^ k)
  | 0, acc, n => by simp [hxL, sv, Nat.mod_one]
  | k + 1, acc, n => by
    rw [hxL_top, sv, hd_lv16 ⟨n / 16 ^ k % 16, Nat.mod_lt _ (by decide)⟩]
    simp only
    rw [hxL_sv k, Nat.pow_succ, Nat.mod_mul, Nat.add_mul, Nat.mul_comm 16 acc, Nat.mul_assoc, Nat.mul_comm 16 (16 ^ k), Nat.mul_comm (n / 16 ^ k % 16)]
    congr 1
    omega
theorem hex_sv {n : Nat} (h : n < 4294967296) : sv 0 (hxL n 8) = some n := by
  rw [hxL_sv, Nat.zero_mul, Nat.zero_add, Nat.mod_eq_of_lt (Nat.lt_of_lt_of_le h (by decide))]
theorem pz_lt : ∀ {l : List UInt8} {acc n : Nat}, pz acc l = some n → n < (acc + 1) * 16 ^ l.length
  | [], acc, n, h => by cases h; simp
  | c :: l, acc, n, h => by
    unfold pz at h
    cases hl : hv c.toNat with
    | none => rw [hl] at h; cases h
    | some d =>
      rw [hl] at h
      have h1 := pz_lt h
      have hd16 := hv_lt hl
      rw [List.length_cons, Nat.pow_succ, Nat.mul_comm (16 ^ l.length), ← Nat.mul_assoc]
      exact Nat.lt_of_lt_of_le h1 (Nat.mul_le_mul_right _ (by omega))

/-- the number that is read of a piece -/
def vH (p : ByteArray) : Nat := (pz 0 p.data.toList).getD 0
theorem vH_lt {p : ByteArray} (h : p.size = 8) : vH p < 4294967296 := by
  unfold vH
  cases hp : pz 0 p.data.toList with
  | none => simp
  | some n =>
    have := pz_lt hp
    rw [len_data, h] at this
    exact this
def okH (p : ByteArray) : Bool := decide (p.size = 8) && (hex8 (vH p) == p.data.toList)
theorem okH_size {p : ByteArray} (h : ¬ p.size = 8) : okH p = false := by unfold okH; rw [decide_eq_false h]; rfl
theorem okH_none {p : ByteArray} (hs : p.size = 8) (h : sv 0 p.data.toList = none) : okH p = false := by
  cases hk : okH p
  · rfl
  · unfold okH at hk
    simp only [Bool.and_eq_true, beq_iff_eq] at hk
    have e : hxL (nb (vH p)) 8 = p.data.toList := hk.2
    rw [← e, hex_sv (nb_lt (vH_lt hs))] at h
    cases h
theorem okH_some {p : ByteArray} {n : Nat} (hs : p.size = 8) (h : sv 0 p.data.toList = some n) : vH p = n ∧ okH p = (bitsOf n == (n : Int)) := by
  have hv1 : vH p = n := by unfold vH; rw [sv_pz h]; rfl
  refine ⟨hv1, ?_⟩
  have hp : p.data.toList = hxL n 8 := by
    have := (sv_hxL h).1
    rw [len_data, hs] at this
    exact this
  have hn : n < 4294967296 := by rw [← hv1]; exact vH_lt hs
  unfold okH
  rw [hv1, decide_eq_true hs, Bool.true_and, hp]
  show (hxL (nb n) 8 == hxL n 8) = _
  rw [nb_eq]
  by_cases e : nb n = n
  · rw [e]; simp
  · have e1 : (hxL (nb n) 8 == hxL n 8) = false := by
      rw [beq_eq_false_iff_ne]
      intro e2
      have := hex_sv (nb_lt hn)
      rw [e2, hex_sv hn] at this
      exact e (Option.some.inj this).symm
    rw [e1]
    symm
    rw [beq_eq_false_iff_ne]
    omega

theorem join_cons2 (x : List UInt8) {l : List (List UInt8)} (h : l ≠ []) : Lib.join (x :: l) [44] = x ++ 44 :: Lib.join l [44] := by
  cases l with
  | nil => exact absurd rfl h
  | cons y r => rw [Lib.join_cons, Lib.join_cons]; simp [Lib.joinTail]
theorem sp_ne (s : ByteArray) : sp s ≠ [] := fun h => by
  have := sp_len s
  rw [h] at this
  simp at this
theorem join_from (s : ByteArray) : ∀ (m a i : Nat), a ≤ i → i + m = s.size → NoC s a i → Lib.join ((sp (s.extract a s.size)).map (·.data.toList)) [44] = s.data.toList.drop a
  | 0, a, i, h1, h2, h3 => by
    obtain rfl : i = s.size := by omega
    rw [sp_miss s a h3, List.map_singleton, Lib.join_one, ex_data]
  | m + 1, a, i, h1, h2, h3 => by
    have hlt : i < s.size := by omega
    have hl : i < s.data.toList.length := by rw [len_data]; exact hlt
    by_cases hc : s.data.toList[i]? = some 44
    · rw [sp_hit s a i h3 h1 hlt hc, List.map_cons, join_cons2 _ (by simp [sp_ne]), join_from s m (i + 1) (i + 1) (Nat.le_refl _) (by omega) (fun j c g1 g2 => absurd g2 (by omega)), Lib.extract_data]
      have hg : s.data.toList[i] = 44 := by
        rw [List.getElem?_eq_getElem hl] at hc
        exact Option.some.inj hc
      have e1 : s.data.toList.drop i = 44 :: s.data.toList.drop (i + 1) := by rw [List.drop_eq_getElem_cons hl, hg]
      rw [← e1]
      have : s.data.toList.drop i = (s.data.toList.drop a).drop (i - a) := by rw [List.drop_drop]; congr 1; omega
      rw [this, List.take_append_drop]
    · refine join_from s m a (i + 1) (by omega) (by omega) (fun j c g1 g2 g3 => ?_)
      by_cases e : j = i
      · subst e
        intro e2
        subst e2
        exact hc g3
      · exact h3 j c g1 (by omega) g3
theorem join_sp (s : ByteArray) : Lib.join ((sp s).map (·.data.toList)) [44] = s.data.toList := by
  have := join_from s s.size 0 0 (Nat.le_refl _) (by omega) (fun j c g1 g2 => absurd g2 (by omega))
  rw [ex_all, List.drop_zero] at this
  exact this
theorem tail_inj : ∀ {A B : List (List UInt8)}, A.length = B.length → (∀ x ∈ A, x.length = 8) → (∀ x ∈ B, x.length = 8) → Lib.joinTail [44] A = Lib.joinTail [44] B → A = B
  | [], [], _, _, _, _ => rfl
  | x :: A, y :: B, hl, h1, h2, h => by
    simp only [Lib.joinTail, List.map_cons, List.flatten_cons, List.cons_append, List.nil_append, List.cons.injEq, true_and] at h
    have e := List.append_inj h (by rw [h1 x (by simp), h2 y (by simp)])
    rw [e.1, tail_inj (by simpa using hl) (fun z hz => h1 z (by simp [hz])) (fun z hz => h2 z (by simp [hz])) e.2]
  | [], _ :: _, hl, _, _, _ => by simp at hl
  | _ :: _, [], hl, _, _, _ => by simp at hl
theorem join_inj : ∀ {A B : List (List UInt8)}, A.length = B.length → (∀ x ∈ A, x.length = 8) → (∀ x ∈ B, x.length = 8) → Lib.join A [44] = Lib.join B [44] → A = B
  | [], [], _, _, _, _ => rfl
  | x :: A, y :: B, hl, h1, h2, h => by
    rw [Lib.join_cons, Lib.join_cons] at h
    have e := List.append_inj h (by rw [h1 x (by simp), h2 y (by simp)])
    rw [e.1, tail_inj (by simpa using hl) (fun z hz => h1 z (by simp [hz])) (fun z hz => h2 z (by simp [hz])) e.2]
  | [], _ :: _, hl, _, _, _ => by simp at hl
  | _ :: _, [], hl, _, _, _ => by simp at hl

/-- has a text a list of numbers -/
def accN (s : ByteArray) : Bool := isNo s || (decide ((sp s).length ≤ 256) && (sp s).all okH)
def lstN (s : ByteArray) : List Nat := if isNo s then [] else if accN s then (sp s).map vH else []
theorem nN_none {s : ByteArray} (h : isNo s = true) : accN s = true ∧ lstN s = [] := by
  unfold accN lstN; rw [h]; exact ⟨rfl, rfl⟩
theorem nN_long {s : ByteArray} (h : isNo s = false) (hl : ¬ (sp s).length ≤ 256) : accN s = false ∧ lstN s = [] := by
  have : accN s = false := by unfold accN; rw [h, decide_eq_false hl]; rfl
  unfold lstN; rw [h, this]; exact ⟨rfl, rfl⟩
theorem nN_all {s : ByteArray} (h : isNo s = false) (hl : (sp s).all okH = false) : accN s = false ∧ lstN s = [] := by
  have : accN s = false := by unfold accN; rw [h, hl]; simp
  unfold lstN; rw [h, this]; exact ⟨rfl, rfl⟩
theorem nN_bad {s : ByteArray} {k : Nat} (h : isNo s = false) (hk : k < (sp s).length) (hr : okH ((sp s).getD k default) = false) : accN s = false ∧ lstN s = [] := by
  refine nN_all h ?_
  have e : (sp s).getD k default = (sp s)[k] := by simp [List.getD_eq_getElem?_getD, hk]
  rw [List.all_eq_false]
  exact ⟨(sp s)[k], List.getElem_mem hk, by rw [← e, hr]; decide⟩
theorem nN_yes {s : ByteArray} (h : isNo s = false) (hl : (sp s).length ≤ 256) (ha : (sp s).all okH = true) : accN s = true ∧ lstN s = (sp s).map vH := by
  have : accN s = true := by unfold accN; rw [h, ha, decide_eq_true hl]; rfl
  unfold lstN; rw [h, this]; exact ⟨rfl, rfl⟩
theorem nN_good {s : ByteArray} (h : isNo s = false) (hl : (sp s).length ≤ 256) (hr : ∀ k, k < (sp s).length → okH ((sp s).getD k default) = true) : accN s = true ∧ lstN s = (sp s).map vH := by
  refine nN_yes h hl ?_
  rw [List.all_eq_true]
  intro x hx
  obtain ⟨k, hk, rfl⟩ := List.getElem_of_mem hx
  have e : (sp s).getD k default = (sp s)[k] := by simp [List.getD_eq_getElem?_getD, hk]
  rw [← e]; exact hr k hk
theorem nN_text {s : ByteArray} (hz : ∀ k, k < (sp s).length → ((sp s).getD k default).size = 8) : (textL (((sp s).map vH).map hex8) == s.data.toList) = (sp s).all okH := by
  have hz' : ∀ p ∈ sp s, p.size = 8 := by
    intro p hp
    obtain ⟨k, hk, rfl⟩ := List.getElem_of_mem hp
    have e : (sp s).getD k default = (sp s)[k] := by simp [List.getD_eq_getElem?_getD, hk]
    rw [← e]; exact hz k hk
  have ht : textL (((sp s).map vH).map hex8) = Lib.join (((sp s).map vH).map hex8) [44] := by
    unfold textL
    rw [if_neg (by simp [sp_ne])]
  rw [ht, ← join_sp s]
  cases ha : (sp s).all okH
  · rw [beq_eq_false_iff_ne]
    intro e
    have e2 := join_inj (by simp) (by
      intro x hx
      simp only [List.mem_map] at hx
      obtain ⟨v, _, rfl⟩ := hx
      exact hxL_len _ _) (by
      intro x hx
      simp only [List.mem_map] at hx
      obtain ⟨p, hp, rfl⟩ := hx
      rw [len_data]; exact hz' p hp) e
    rw [List.map_map] at e2
    have : (sp s).all okH = true := by
      rw [List.all_eq_true]
      intro p hp
      have := List.map_inj_left.1 e2 p hp
      unfold okH
      rw [decide_eq_true (hz' p hp)]
      simpa using this
    rw [this] at ha
    cases ha
  · rw [beq_iff_eq]
    congr 1
    rw [List.map_map]
    refine List.map_congr_left fun p hp => ?_
    have := List.all_eq_true.1 ha p hp
    unfold okH at this
    simp only [Bool.and_eq_true, beq_iff_eq] at this
    exact this.2

end Go.Proofs.YtiabbafmjgiobaaGreatDoor

/-
Texts of lists read back: the reference.
-/
set_option linter.unusedVariables false
set_option linter.unusedSimpArgs false
namespace Go.Proofs.YtiabbafmjgiobaaGreatDoor
open Go Go.RowKit

theorem info64r : (Tryz.prog.info? 2).map (fun i => (i.zero, i.size, i.bytes)) = some (some (.int .i64 0), 1, 8) := by kernel_rfl
theorem infoSr : (Tryz.prog.info? 9).map (fun i => (i.zero, i.size, i.bytes)) = some (some (.string ByteArray.empty), 1, 16) := by kernel_rfl
/-- what reading a list gives -/
def NumGives (s : ByteArray) (w : World) (e : Ending) (w' : World) : Prop :=
  ∃ v, e = .returned (.tuple #[v, .bool (numB s)]) ∧ OwnI w.heap.size (numL s) v w' ∧ Below w.heap.size w w'
theorem own_new (w : World) (t : TypeId) (base : Nat) (hb : base ≤ w.heap.size) : (w.alloc (.cells #[] t)).ownsRow base t 1 (.slice (some ⟨w.heap.size, 0, none⟩) 0 0) 0 [] :=
  ⟨rfl, .inr ⟨w.heap.size, 0, #[], rfl, hb, heap_alloc_new w _, Nat.le_refl _, by unfold maxLen; omega, rfl, rfl⟩⟩
theorem ob_some {A3 : Option Addr} {n3 c3 g n c m x : Nat} (hni : (Value.slice A3 n3 c3 = .slice none 0 0) ↔ (Value.slice (some ⟨g, 0, none⟩) n c = .slice none 0 0) ∧ m = 0) (hob : (Value.slice A3 n3 c3).ownBlock = (Value.slice (some ⟨g, 0, none⟩) n c).ownBlock ∨ (Value.slice A3 n3 c3).ownBlock = some x)
    {w : World} {base : Nat} {t : TypeId} {xs : List Value} (ho : w.ownsRow base t 1 (.slice A3 n3 c3) n3 xs) : ∃ g3, A3 = some ⟨g3, 0, none⟩ ∧ (g3 = g ∨ g3 = x) := by
  rcases ho.2 with ⟨hv, hn⟩ | ⟨g', cp, cur, hv, _⟩
  · have := (hni.1 hv).1
    cases this
  · simp only [Value.slice.injEq] at hv
    obtain ⟨rfl, _, rfl⟩ := hv
    refine ⟨g', rfl, ?_⟩
    simp only [Value.ownBlock, Option.some.injEq] at hob
    exact hob
theorem str_eqR (s : ByteArray) (l : List UInt8) : (s.toList == l) = (s.data.toList == l) := by
  rw [toList_eq]



end Go.Proofs.YtiabbafmjgiobaaGreatDoor

/-
A region that draws its order, walked by an invariant: each operation leaves a value of its kind, whatever the order.
-/
namespace Go.Proofs.YtiabbafmjgiobaaGreatDoor.Fl
open Go

/-- what a frame keeps of another: all but the slots that a region writes -/
structure FrameOf (n : Nat) (dst : Nat → Nat) (a0 a : Act) : Prop where
  defers : a.defers = a0.defers
  size : a.tmps.size = a0.tmps.size
  rest : ∀ s, (∀ i, i < n → dst i ≠ s) → a.tmps.getD s undef = a0.tmps.getD s undef

theorem countP_lt {p q : Nat → Bool} {i : Nat} : ∀ l : List Nat, i ∈ l → (∀ x, q x = true → p x = true) → p i = true → q i = false → l.countP q < l.countP p := by
  intro l
  induction l with
  | nil => intro h; cases h
  | cons x l ih =>
    intro hi hpq hp hq
    have hle : l.countP q ≤ l.countP p := List.countP_mono_left fun y _ => hpq y
    rw [List.countP_cons, List.countP_cons]
    rcases List.mem_cons.1 hi with h | h
    · subst h
      rw [hp, hq]
      simp; omega
    · have := ih h hpq hp hq
      cases hx : q x
      · simp; split <;> omega
      · rw [hpq x hx]; simp; omega

section
variable {P : Program} {ops : Array Oper} {Q : Exit → Act → World → Prop} {dst : Nat → Nat} {C : World → Prop} {V : Nat → Value → Prop} {a0 : Act}

theorem getD_lt {α : Type} (xs : Array α) (i : Nat) (d d' : α) (h : i < xs.size) : xs.getD i d = xs.getD i d' := by
  simp [Array.getD, h]

theorem ready_mem {listed : Array Bool} {i : Nat} (h : i ∈ Region.ready .any ops listed) : i < ops.size ∧ listed.getD i true = false ∧ ∀ o, ops[i]? = some o → ∀ e ∈ o.after, Region.binds .any e = true → listed.getD e.on false = true := by
  unfold Region.ready at h
  obtain ⟨h1, h2⟩ := List.mem_filter.1 h
  have hi := List.mem_range.1 h1
  simp only [Bool.and_eq_true, Bool.not_eq_true'] at h2
  refine ⟨hi, h2.1, fun o ho e he hb => ?_⟩
  have h3 := h2.2
  rw [ho] at h3
  simp only [Option.map_some, Option.getD_some, Array.all_eq_true', Bool.or_eq_true, Bool.not_eq_true'] at h3
  rcases h3 e he with h | h
  · rw [hb] at h; cases h
  · exact h

theorem ready_nil {listed : Array Bool} (hsz : listed.size = ops.size) (hback : ∀ (i : Nat) (o : Oper), ops[i]? = some o → ∀ e ∈ o.after, e.on < i) (h : Region.ready .any ops listed = []) :
    ∀ i, i < ops.size → listed.getD i false = true := by
  intro i
  induction i using Nat.strongRecOn with
  | ind i ih =>
    intro hi
    cases hl : listed.getD i false with
    | true => rfl
    | false =>
      exfalso
      have : i ∈ Region.ready .any ops listed := by
        unfold Region.ready
        refine List.mem_filter.2 ⟨List.mem_range.2 hi, ?_⟩
        rw [getD_lt listed i true false (by omega), hl]
        have ho : ops[i]? = some ops[i] := Array.getElem?_eq_getElem hi
        rw [ho]
        simp only [Bool.not_false, Option.map_some, Option.getD_some, Bool.true_and, Array.all_eq_true', Bool.or_eq_true]
        intro e he
        exact .inr (ih e.on (hback i _ ho e he) (Nat.lt_trans (hback i _ ho e he) hi))
      rw [h] at this
      cases this

theorem FrameOf.put {n : Nat} {a : Act} (h : FrameOf n dst a0 a) {i : Nat} (hi : i < n) (v : Value) : FrameOf n dst a0 (a.put (some (dst i)) v) := by
  refine ⟨h.defers, ?_, fun s hs => ?_⟩
  · show (a.tmps.setIfInBounds (dst i) v).size = _
    rw [Array.size_setIfInBounds]; exact h.size
  · rw [← h.rest s hs]
    show (a.tmps.setIfInBounds (dst i) v).getD s undef = _
    have := hs i hi
    simp only [Array.getD_eq_getD_getElem?, Array.getElem?_setIfInBounds]
    rw [if_neg this]

theorem put_same (a : Act) (d : Nat) (v : Value) (h : d < a.tmps.size) : (a.put (some d) v).tmps.getD d undef = v := by
  show (a.tmps.setIfInBounds d v).getD d undef = v
  simp [Array.getD_eq_getD_getElem?, h]
theorem put_other (a : Act) (d s : Nat) (v : Value) (h : d ≠ s) : (a.put (some d) v).tmps.getD s undef = a.tmps.getD s undef := by
  show (a.tmps.setIfInBounds d v).getD s undef = _
  simp only [Array.getD_eq_getD_getElem?, Array.getElem?_setIfInBounds]
  rw [if_neg h]

theorem wpAny_inv (hd : ∀ (i : Nat) (o : Oper), ops[i]? = some o → o.guard = none)
    (hinj : ∀ i j, i < ops.size → j < ops.size → dst i = dst j → i = j)
    (hlt : ∀ i, i < ops.size → dst i < a0.tmps.size)
    (hback : ∀ (i : Nat) (o : Oper), ops[i]? = some o → ∀ e ∈ o.after, e.on < i)
    (hstep : ∀ (i : Nat) (o : Oper), ops[i]? = some o → ∀ a w, C w → FrameOf ops.size dst a0 a → (∀ e ∈ o.after, Region.binds .any e = true → V e.on (a.tmps.getD (dst e.on) undef)) →
      (∀ (j : Nat) (o' : Oper), ops[j]? = some o' → (∃ e ∈ o'.after, e.on = i ∧ Region.binds .any e = true) → a.tmps.getD (dst j) undef = a0.tmps.getD (dst j) undef) →
      o.wp P a w (fun a' w' => C w' ∧ ∃ v, V i v ∧ a' = a.put (some (dst i)) v) Q)
    (hend : ∀ a w, C w → FrameOf ops.size dst a0 a → (∀ i, i < ops.size → V i (a.tmps.getD (dst i) undef)) → Q .normal a w) :
    ∀ (fuel : Nat) (listed : Array Bool) (a : Act) (w : World), listed.size = ops.size → (List.range ops.size).countP (fun i => !listed.getD i false) ≤ fuel → C w → FrameOf ops.size dst a0 a →
      (∀ i, i < ops.size → listed.getD i false = true → V i (a.tmps.getD (dst i) undef)) →
      (∀ i, i < ops.size → listed.getD i false = false → a.tmps.getD (dst i) undef = a0.tmps.getD (dst i) undef) →
      (∀ (j : Nat) (o : Oper), ops[j]? = some o → listed.getD j false = true → ∀ e ∈ o.after, Region.binds .any e = true → listed.getD e.on false = true) → wpAny P .any ops Q fuel listed a w := by
  intro fuel
  induction fuel with
  | zero =>
    intro listed a w hsz hcnt hC hF hV hU hD
    have hall : ∀ i, i < ops.size → listed.getD i false = true := by
      intro i hi
      have h0 : (List.range ops.size).countP (fun i => !listed.getD i false) = 0 := by omega
      have := List.countP_eq_zero.1 h0 i (List.mem_range.2 hi)
      simpa using this
    refine ⟨?_, hend a w hC hF fun i hi => hV i hi (hall i hi)⟩
    cases hr : Region.ready .any ops listed with
    | nil => rfl
    | cons x xs =>
      have hx : x ∈ Region.ready .any ops listed := by rw [hr]; exact List.mem_cons_self
      obtain ⟨h1, h2, _⟩ := ready_mem hx
      rw [getD_lt listed x true false (by omega), hall x h1] at h2
      cases h2
  | succ fuel ih =>
    intro listed a w hsz hcnt hC hF hV hU hD
    refine ⟨fun hr => hend a w hC hF fun i hi => hV i hi (ready_nil hsz hback hr i hi), fun i hi => ?_⟩
    obtain ⟨h1, h2, h3⟩ := ready_mem hi
    have ho : ops[i]? = some ops[i] := Array.getElem?_eq_getElem h1
    unfold wpOp
    rw [ho]
    simp only []
    rw [if_pos (by simp [Region.wanted, hd i _ ho])]
    refine .inl (Oper.wp_mono ?_ (hstep i _ ho a w hC hF (fun e he hb => ?_) (fun j o' hj ⟨e, he, hei, hb⟩ => ?_)))
    · rintro a' w' ⟨hC', v, hv, rfl⟩
      refine ih _ _ _ (by rw [Array.size_setIfInBounds]; exact hsz) ?_ hC' (hF.put h1 v) ?_ ?_ ?_
      · have hlt' := countP_lt (p := fun i => !listed.getD i false) (q := fun j => !(listed.setIfInBounds i true).getD j false) (i := i) (List.range ops.size) (List.mem_range.2 h1) (by
          intro x hx
          simp only [Array.getD_eq_getD_getElem?, Array.getElem?_setIfInBounds, Bool.not_eq_true'] at hx ⊢
          split at hx
          · rename_i h; subst h; simp [show i < listed.size by omega] at hx
          · exact hx) (by
          rw [getD_lt listed i true false (by omega)] at h2
          rw [h2]; rfl) (by simp [Array.getD_eq_getD_getElem?, show i < listed.size by omega])
        omega
      · intro j hj hl
        by_cases hij : i = j
        · subst hij
          rw [put_same _ _ _ (by rw [hF.size]; exact hlt i h1)]
          exact hv
        · rw [put_other _ _ _ _ (fun h => hij (hinj i j h1 hj h))]
          refine hV j hj ?_
          simp only [Array.getD_eq_getD_getElem?, Array.getElem?_setIfInBounds, if_neg hij] at hl ⊢
          exact hl
      · intro j hj hl
        have hij : i ≠ j := by
          intro h
          subst h
          simp [Array.getD_eq_getD_getElem?, show i < listed.size by omega] at hl
        rw [put_other _ _ _ _ (fun h => hij (hinj i j h1 hj h))]
        refine hU j hj ?_
        simp only [Array.getD_eq_getD_getElem?, Array.getElem?_setIfInBounds, if_neg hij] at hl ⊢
        exact hl
      · intro j o hj hl e he hb
        have key : ∀ x, listed.getD x false = true → (listed.setIfInBounds i true).getD x false = true := by
          intro x hx
          simp only [Array.getD_eq_getD_getElem?, Array.getElem?_setIfInBounds] at hx ⊢
          split
          · rename_i h; subst h; simp [show i < listed.size by omega]
          · exact hx
        by_cases hij : i = j
        · subst hij
          exact key _ (h3 o hj e he hb)
        · refine key _ (hD j o hj ?_ e he hb)
          simp only [Array.getD_eq_getD_getElem?, Array.getElem?_setIfInBounds, if_neg hij] at hl ⊢
          exact hl
    · exact hV e.on (Nat.lt_trans (hback i _ ho e he) h1) (h3 _ ho e he hb)
    · obtain ⟨hj1, _⟩ := Array.getElem?_eq_some_iff.1 hj
      refine hU j hj1 ?_
      cases hl : listed.getD j false with
      | false => rfl
      | true =>
        exfalso
        have := hD j o' hj hl e he hb
        rw [hei, getD_lt listed i false true (by omega), h2] at this
        cases this

/-- A REGION THAT DRAWS ITS ORDER, BY AN INVARIANT: each operation leaves in its slot a value of its kind, whatever its forerunners left. -/
theorem wp_region_inv {id : Nat} {w0 : World} (hm : P.follows .mixedOrders = true) (hd : ∀ (i : Nat) (o : Oper), ops[i]? = some o → o.guard = none)
    (hinj : ∀ i j, i < ops.size → j < ops.size → dst i = dst j → i = j)
    (hlt : ∀ i, i < ops.size → dst i < a0.tmps.size)
    (hback : ∀ (i : Nat) (o : Oper), ops[i]? = some o → ∀ e ∈ o.after, e.on < i) (hC : C w0.drew)
    (hstep : ∀ (i : Nat) (o : Oper), ops[i]? = some o → ∀ a w, C w → FrameOf ops.size dst a0 a → (∀ e ∈ o.after, Region.binds .any e = true → V e.on (a.tmps.getD (dst e.on) undef)) →
      (∀ (j : Nat) (o' : Oper), ops[j]? = some o' → (∃ e ∈ o'.after, e.on = i ∧ Region.binds .any e = true) → a.tmps.getD (dst j) undef = a0.tmps.getD (dst j) undef) →
      o.wp P a w (fun a' w' => C w' ∧ ∃ v, V i v ∧ a' = a.put (some (dst i)) v) Q)
    (hend : ∀ a w, C w → FrameOf ops.size dst a0 a → (∀ i, i < ops.size → V i (a.tmps.getD (dst i) undef)) → Q .normal a w) :
    (Code.region id ops true).wp P Q a0 w0 := by
  refine wp_region_any hm (wpAny_inv hd hinj hlt hback hstep hend ops.size _ _ _ (by simp) ?_ hC ⟨rfl, rfl, fun _ _ => rfl⟩ ?_ (fun _ _ _ => rfl) ?_)
  · exact Nat.le_trans List.countP_le_length (by simp)
  · intro i hi h
    simp [Array.getD_eq_getD_getElem?, hi] at h
  · intro j o hj h
    obtain ⟨hj1, _⟩ := Array.getElem?_eq_some_iff.1 hj
    simp [Array.getD_eq_getD_getElem?, hj1] at h
end

theorem guards_none {ops : Array Oper} (h : ops.all (fun o => o.guard.isNone) = true) : ∀ (i : Nat) (o : Oper), ops[i]? = some o → o.guard = none := by
  intro i o ho
  obtain ⟨hi, rfl⟩ := Array.getElem?_eq_some_iff.1 ho
  have := Array.all_eq_true.1 h i hi
  simpa using this
theorem edges_back {ops : Array Oper} (h : (List.range ops.size).all (fun i => (ops[i]?).all fun o => o.after.all fun e => decide (e.on < i)) = true) : ∀ (i : Nat) (o : Oper), ops[i]? = some o → ∀ e ∈ o.after, e.on < i := by
  intro i o ho e he
  obtain ⟨hi, rfl⟩ := Array.getElem?_eq_some_iff.1 ho
  have := List.all_eq_true.1 h i (List.mem_range.2 hi)
  rw [ho] at this
  simp only [Option.all_some, Array.all_eq_true', decide_eq_true_eq] at this
  exact this e he

theorem step_value {P : Program} {o : Oper} {a : Act} {w w' : World} {Q : Exit → Act → World → Prop} {C : World → Prop} {V : Value → Prop} {d : Nat} {v : Value}
    (h : (execOp a.eval o).run P w = .ok (.value v) w') (hd : o.dst = some d) (hC : C w') (hv : V v) : o.wp P a w (fun a' w' => C w' ∧ ∃ v, V v ∧ a' = a.put (some d) v) Q := by
  unfold Oper.wp
  rw [h]
  exact ⟨hC, v, hv, by rw [hd]⟩
theorem step_call {P : Program} {o : Oper} {a : Act} {w : World} {Q : Exit → Act → World → Prop} {C : World → Prop} {V : Value → Prop} {d : Nat} {f : FuncId} {args : Array Value}
    (h : (execOp a.eval o).run P w = .ok (.enter f args) w) (hd : o.dst = some d) (hc : Calls P f args w fun e w' => ∃ v, e = .returned v ∧ V v ∧ C w') : o.wp P a w (fun a' w' => C w' ∧ ∃ v, V v ∧ a' = a.put (some d) v) Q := by
  unfold Oper.wp
  rw [h]
  exact hc.mono fun e w' ⟨v, he, hv, hC⟩ => by subst he; exact ⟨hC, v, hv, by rw [hd]⟩

theorem toList_form (l : List Value) : l = (List.range l.length).map fun s => l.getD s undef := by
  apply List.ext_getElem
  · simp
  · intro i h1 h2
    simp [List.getD_eq_getElem?_getD, List.getElem?_eq_getElem h1]

/-- the frame behind the region, written out: 'own' holds of the slots that the region writes -/
theorem FrameOf.form {n : Nat} {dst : Nat → Nat} {a0 a : Act} (h : FrameOf n dst a0 a) (own : Nat → Prop) [DecidablePred own] (ho : ∀ s, ¬ own s → ∀ i, i < n → dst i ≠ s) :
    a = ⟨((List.range a0.tmps.size).map fun s => if own s then a.tmps.getD s undef else a0.tmps.getD s undef).toArray, a0.defers⟩ := by
  obtain ⟨t, d⟩ := a
  obtain ⟨h1, h2, h3⟩ := h
  simp only at h1 h2 h3
  subst h1
  congr 1
  apply Array.ext'
  rw [List.toList_toArray, ← h2]
  conv => lhs; rw [toList_form t.toList]
  rw [Array.length_toList]
  apply List.map_congr_left
  intro s hs
  have e : t.toList.getD s undef = t.getD s undef := by simp [Array.getD_eq_getD_getElem?, List.getD_eq_getElem?_getD]
  rw [e]
  split
  · rfl
  · rename_i hn
    exact h3 s (ho s hn)

end Go.Proofs.YtiabbafmjgiobaaGreatDoor.Fl

/-
Lists of float32 in memory: what it is to read as a list; copies; comparisons.
-/
namespace Go.Proofs.YtiabbafmjgiobaaGreatDoor
open Fl Go.RowKit

@[go_sem] theorem run_store_float {P : Program} {w : World} {a : Addr} {m : Mode} (k : FloatKind) (b : Nat) : (store a (.float k b) m).run P w = stored P w a (.float k b) m := run_store P w a _ m rfl
@[go_sem] theorem run_store_complex {P : Program} {w : World} {a : Addr} {m : Mode} (k : FloatKind) (b c : Nat) : (store a (.complex k b c) m).run P w = stored P w a (.complex k b c) m := run_store P w a _ m rfl

/-- the cells behind an address hold the list's numbers -/
def Fl32 (w : World) (A : Option Addr) (xs : List Nat) : Prop :=
  xs = [] ∨ ∃ b off, A = some ⟨b, off, none⟩ ∧ b < w.heap.size ∧ ∀ j, j < xs.length → w.cell? ⟨b, off + j, none⟩ = some (.float .f32 (xs.getD j 0))
/-- each number is one of 32 bits -/
def All32 (xs : List Nat) : Prop := ∀ j, xs.getD j 0 < 4294967296

theorem Fl32.at {w : World} {A : Option Addr} {xs : List Nat} (h : Fl32 w A xs) {k : Nat} (hk : k < xs.length) :
    ∃ b off, A = some ⟨b, off, none⟩ ∧ b < w.heap.size ∧ w.cell? ⟨b, off + k, none⟩ = some (.float .f32 (xs.getD k 0)) := by
  rcases h with rfl | ⟨b, off, rfl, hb, hc⟩
  · cases hk
  · exact ⟨b, off, rfl, hb, hc k hk⟩
theorem Fl32.keep {B : Nat} {w w' : World} {A : Option Addr} {xs : List Nat} (h : Fl32 w A xs) (hb : Below B w w') (hB : w.heap.size ≤ B) : Fl32 w' A xs := by
  rcases h with rfl | ⟨b, off, rfl, hbl, hc⟩
  · exact .inl rfl
  · exact .inr ⟨b, off, rfl, Nat.lt_of_lt_of_le hbl hb.size, fun j hj => by rw [hb.cell (p := ⟨b, off + j, none⟩) (by show b < B; omega)]; exact hc j hj⟩
theorem Fl32.drewN {w : World} {A : Option Addr} {xs : List Nat} (h : Fl32 w A xs) (n : Nat) : Fl32 (w.drewN n) A xs := h

theorem info32 : (Tryz.prog.info? 28).map (fun i => (i.zero, i.size, i.bytes)) = some (some (.float .f32 0), 1, 4) := by kernel_rfl

/-- a new row of floats, the first k of them those of a list -/
def Filled (wr : World) (B n : Nat) (xs : List Nat) (k : Nat) : Prop :=
  ∃ ys : List Value, wr.ownsRow B 28 1 (.slice (some ⟨B, 0, none⟩) n n) n ys ∧ ∀ j, j < k → ys[j]? = some (.float .f32 (xs.getD j 0))
theorem Filled.cells {wr : World} {B : Nat} {xs : List Nat} (h : Filled wr B xs.length xs xs.length) (hB : B < wr.heap.size) : Fl32 wr (some ⟨B, 0, none⟩) xs := by
  obtain ⟨ys, ho, hy⟩ := h
  refine .inr ⟨B, 0, rfl, hB, fun j hj => ?_⟩
  rw [Nat.zero_add, ho.cellAt j (by omega)]
  exact hy j hj
theorem Filled.cell {wr : World} {B n : Nat} {xs : List Nat} {k : Nat} (h : Filled wr B n xs k) {j : Nat} (hj : j < n) : (∃ u, wr.cell? ⟨B, j, none⟩ = some u) ∧ wr.frozen? ⟨B, j, none⟩ = false := by
  obtain ⟨ys, ho, hy⟩ := h
  have hl : ys.length = n * 1 := ho.1
  refine ⟨⟨ys[j]'(by omega), ?_⟩, ho.frozenAt j⟩
  rw [ho.cellAt j (by omega)]
  exact List.getElem?_eq_getElem (by omega)
theorem Filled.step {wr : World} {B n : Nat} {xs : List Nat} {k : Nat} (h : Filled wr B n xs k) (hk : k < n) {v : Value} (hv : v = .float .f32 (xs.getD k 0)) : Filled (wr.setCell ⟨B, k, none⟩ v) B n xs (k + 1) := by
  obtain ⟨ys, ho, hy⟩ := h
  have hl : ys.length = n * 1 := ho.1
  refine ⟨_, (ho.stored k v).1, fun j hj => ?_⟩
  rw [List.getElem?_set]
  by_cases h1 : k = j
  · subst h1
    rw [if_pos rfl, if_pos (by omega), hv]
  · rw [if_neg h1]; exact hy j (by omega)

theorem Fl32.of_pos {w : World} {A : Option Addr} {xs : List Nat} (h : Fl32 w A xs) (hp : 0 < xs.length) :
    ∃ b off, A = some ⟨b, off, none⟩ ∧ b < w.heap.size ∧ ∀ j, j < xs.length → w.cell? ⟨b, off + j, none⟩ = some (.float .f32 (xs.getD j 0)) := by
  rcases h with rfl | h
  · cases hp
  · exact h

/-- the kinds of what the statement 'sameFloat(float64(a[i]), float64(b[i]))' leaves -/
def eqV (b off b' off' n c d k v : Nat) : Nat → Value → Prop
  | 0, x => x = .slice (some ⟨b, off, none⟩) n c
  | 1, x => x = .int .i64 k
  | 2, x => x = .pointer (some ⟨b, off + k, none⟩)
  | 3, x => x = .float .f32 v
  | 4, x => ∃ r, RV .f64 (cvf .f32 .f64 (fv .f32 v)) r ∧ x = .float .f64 r
  | 5, x => x = .slice (some ⟨b', off', none⟩) n d
  | 6, x => x = .int .i64 k
  | 7, x => x = .pointer (some ⟨b', off' + k, none⟩)
  | 8, x => x = .float .f32 v
  | 9, x => ∃ r, RV .f64 (cvf .f32 .f64 (fv .f32 v)) r ∧ x = .float .f64 r
  | 10, x => x = .bool true
  | 11, x => x = .bool false
  | _, _ => True

end Go.Proofs.YtiabbafmjgiobaaGreatDoor

/-
Texts of lists of numbers read back: the reference.
-/
set_option linter.unusedVariables false
set_option linter.unusedSimpArgs false
namespace Go.Proofs.YtiabbafmjgiobaaGreatDoor
open Fl Go Go.RowKit

/-- a list of float32 that was made from block 'base' on -/
def OwnF (base : Nat) (xs : List Nat) (v : Value) (w : World) : Prop :=
  ∃ A cap, v = .slice A xs.length cap ∧ w.ownsRow base 28 1 v xs.length (xs.map (Value.float .f32))
theorem OwnF.keep {base : Nat} {xs : List Nat} {v : Value} {w w' : World} (h : OwnF base xs v w) (hb : Below w.heap.size w w') : OwnF base xs v w' := by
  obtain ⟨A, cap, rfl, h1⟩ := h
  exact ⟨A, cap, rfl, own_keep h1 hb⟩
theorem OwnF.nil (base : Nat) (w : World) : OwnF base [] (.slice none 0 0) w := ⟨none, 0, rfl, rfl, .inl ⟨rfl, rfl⟩⟩
/-- what reading a list of numbers gives -/
def NReadGives (s : ByteArray) (w : World) (e : Ending) (w' : World) : Prop :=
  ∃ v, e = .returned (.tuple #[v, .bool (accN s)]) ∧ OwnF w.heap.size (lstN s) v w' ∧ Below w.heap.size w w'
theorem mapF_snoc (s : ByteArray) {k : Nat} (hk : k < (sp s).length) : ((sp s).take k).map vH ++ [vH ((sp s).getD k default)] = ((sp s).take (k + 1)).map vH := by
  have e : (sp s).getD k default = (sp s)[k] := by simp [List.getD_eq_getElem?_getD, hk]
  rw [List.take_succ_eq_append_getElem hk, List.map_append, e]
  rfl
theorem c_from (n : Nat) (h1 : n < 4294967296) (w : World) : Calls Tryz.prog 52 #[.int .i64 n] w fun e w' => e = .returned (.float .f32 n) ∧ w = w' := by
  have hI : (n : Int) < 4294967296 := by omega
  go_enter Tryz.func52, Tryz.ntmps52
  go_wp2_with fail
  go_ret
  exact ⟨rfl, rfl⟩

/-- where the reading of a piece stands: j bytes are read, their value is n -/
def PZ (p : ByteArray) (j n : Nat) : Prop := n < 16 ^ j ∧ sv 0 p.data.toList = sv n (p.data.toList.drop j)
theorem PZ.zero (p : ByteArray) : PZ p 0 0 := ⟨by decide, rfl⟩
theorem PZ.next {p : ByteArray} {j n d : Nat} (h : PZ p j n) (hj : j < p.size) (hd : lv (p[j]'hj).toNat = some d) : PZ p (j + 1) (16 * n + d) := by
  have hl : j < p.data.toList.length := by rw [len_data]; exact hj
  refine ⟨?_, ?_⟩
  · have := lv_lt hd
    have := h.1
    rw [Nat.pow_succ]; omega
  · rw [h.2, List.drop_eq_getElem_cons hl, sv]
    have : lv (p.data.toList[j]).toNat = some d := hd
    rw [this]
theorem PZ.bad {p : ByteArray} {j n : Nat} (h : PZ p j n) (hj : j < p.size) (hd : lv (p[j]'hj).toNat = none) : sv 0 p.data.toList = none := by
  have hl : j < p.data.toList.length := by rw [len_data]; exact hj
  rw [h.2, List.drop_eq_getElem_cons hl, sv]
  have : lv (p.data.toList[j]).toNat = none := hd
  rw [this]
theorem PZ.fin {p : ByteArray} {n : Nat} (h : PZ p 8 n) (hs : p.size = 8) : sv 0 p.data.toList = some n := by
  rw [h.2, List.drop_eq_nil_of_le (by rw [len_data, hs]; exact Nat.le_refl _)]
  rfl

end Go.Proofs.YtiabbafmjgiobaaGreatDoor

/-
Texts of lists of numbers read back: the reference, walked.
-/
set_option linter.unusedVariables false
set_option linter.unusedSimpArgs false
namespace Go.Proofs.YtiabbafmjgiobaaGreatDoor
open Fl Go Go.RowKit

theorem lvA {c : Nat} (h1 : 48 ≤ c) (h2 : c ≤ 57) : lv c = some (c - 48) := by unfold lv; rw [if_pos ⟨h1, h2⟩]
theorem lvB {c : Nat} (h1 : 97 ≤ c) (h2 : c ≤ 102) : lv c = some (c - 87) := by unfold lv; rw [if_neg (by omega), if_pos ⟨h1, h2⟩]
theorem lvC {c : Nat} (h1 : ¬ (48 ≤ c ∧ c ≤ 57)) (h2 : ¬ (97 ≤ c ∧ c ≤ 102)) : lv c = none := by unfold lv; rw [if_neg h1, if_neg h2]
theorem info32r : (Tryz.prog.info? 28).map (fun i => (i.zero, i.size, i.bytes)) = some (some (.float .f32 0), 1, 4) := by kernel_rfl


end Go.Proofs.YtiabbafmjgiobaaGreatDoor

/-
Eight hexadecimal digits read by the reference (l01Digits); plain part of lists of complex numbers.
-/
set_option linter.unusedVariables false
set_option linter.unusedSimpArgs false
namespace Go.Proofs.YtiabbafmjgiobaaGreatDoor
open Fl Go Go.RowKit

/-- what reading 8 digits gives -/
def dgN (p : ByteArray) : Nat := if okH p then vH p else 0
theorem dg_no {p : ByteArray} (h : okH p = false) : dgN p = 0 := by unfold dgN; rw [h]; rfl
theorem dg_yes {p : ByteArray} (h : okH p = true) : dgN p = vH p := by unfold dgN; rw [h]; rfl
def DigGives (p : ByteArray) (w : World) (e : Ending) (w' : World) : Prop := e = .returned (.tuple #[.float .f32 (dgN p), .bool (okH p)]) ∧ w = w'


/-- the two halves of a piece -/
def p1 (p : ByteArray) : ByteArray := p.extract 0 8
def p2 (p : ByteArray) : ByteArray := p.extract 8 p.size
theorem half_size {p : ByteArray} (h : p.size = 16) : (p1 p).size = 8 ∧ (p2 p).size = 8 := by
  unfold p1 p2
  rw [ByteArray.size_extract, ByteArray.size_extract, h]
  exact ⟨rfl, rfl⟩
theorem half_data {p : ByteArray} (h : p.size = 16) : (p1 p).data.toList ++ (p2 p).data.toList = p.data.toList := by
  unfold p1 p2
  rw [ex_data, Lib.extract_data, List.drop_zero]
  exact List.take_append_drop _ _
def okC (p : ByteArray) : Bool := decide (p.size = 16) && (okH (p1 p) && okH (p2 p))
/-- the two numbers that are read of a piece -/
def vC (p : ByteArray) : Nat × Nat := (vH (p1 p), vH (p2 p))
def hexC (c : Nat × Nat) : List UInt8 := hex8 c.1 ++ hex8 c.2
theorem hexC_len (c : Nat × Nat) : (hexC c).length = 16 := by
  unfold hexC hex8
  rw [List.length_append, hxL_len, hxL_len]
theorem okC_iff {p : ByteArray} (h : p.size = 16) : okC p = (hexC (vC p) == p.data.toList) := by
  obtain ⟨h1, h2⟩ := half_size h
  unfold okC okH hexC vC
  rw [decide_eq_true h, decide_eq_true h1, decide_eq_true h2, Bool.true_and, Bool.true_and, Bool.true_and, ← half_data h]
  rw [Bool.eq_iff_iff]
  simp only [Bool.and_eq_true, beq_iff_eq]
  constructor
  · rintro ⟨e1, e2⟩; rw [e1, e2]
  · intro e
    exact List.append_inj e (by rw [len_data, h1]; exact hxL_len _ _)
theorem okC_size {p : ByteArray} (h : ¬ p.size = 16) : okC p = false := by unfold okC; rw [decide_eq_false h]; rfl
theorem tail_inj2 {n : Nat} : ∀ {A B : List (List UInt8)}, A.length = B.length → (∀ x ∈ A, x.length = n) → (∀ x ∈ B, x.length = n) → Lib.joinTail [44] A = Lib.joinTail [44] B → A = B
  | [], [], _, _, _, _ => rfl
  | x :: A, y :: B, hl, h1, h2, h => by
    simp only [Lib.joinTail, List.map_cons, List.flatten_cons, List.cons_append, List.nil_append, List.cons.injEq, true_and] at h
    have e := List.append_inj h (by rw [h1 x (by simp), h2 y (by simp)])
    rw [e.1, tail_inj2 (by simpa using hl) (fun z hz => h1 z (by simp [hz])) (fun z hz => h2 z (by simp [hz])) e.2]
  | [], _ :: _, hl, _, _, _ => by simp at hl
  | _ :: _, [], hl, _, _, _ => by simp at hl
theorem join_inj2 {n : Nat} : ∀ {A B : List (List UInt8)}, A.length = B.length → (∀ x ∈ A, x.length = n) → (∀ x ∈ B, x.length = n) → Lib.join A [44] = Lib.join B [44] → A = B
  | [], [], _, _, _, _ => rfl
  | x :: A, y :: B, hl, h1, h2, h => by
    rw [Lib.join_cons, Lib.join_cons] at h
    have e := List.append_inj h (by rw [h1 x (by simp), h2 y (by simp)])
    rw [e.1, tail_inj2 (by simpa using hl) (fun z hz => h1 z (by simp [hz])) (fun z hz => h2 z (by simp [hz])) e.2]
  | [], _ :: _, hl, _, _, _ => by simp at hl
  | _ :: _, [], hl, _, _, _ => by simp at hl

/-- has a text a list of complex numbers -/
def accC (s : ByteArray) : Bool := isNo s || (decide ((sp s).length ≤ 256) && (sp s).all okC)
def lstC (s : ByteArray) : List (Nat × Nat) := if isNo s then [] else if accC s then (sp s).map vC else []
theorem nC_none {s : ByteArray} (h : isNo s = true) : accC s = true ∧ lstC s = [] := by
  unfold accC lstC; rw [h]; exact ⟨rfl, rfl⟩
theorem nC_long {s : ByteArray} (h : isNo s = false) (hl : ¬ (sp s).length ≤ 256) : accC s = false ∧ lstC s = [] := by
  have : accC s = false := by unfold accC; rw [h, decide_eq_false hl]; rfl
  unfold lstC; rw [h, this]; exact ⟨rfl, rfl⟩
theorem nC_all {s : ByteArray} (h : isNo s = false) (hl : (sp s).all okC = false) : accC s = false ∧ lstC s = [] := by
  have : accC s = false := by unfold accC; rw [h, hl]; simp
  unfold lstC; rw [h, this]; exact ⟨rfl, rfl⟩
theorem nC_bad {s : ByteArray} {k : Nat} (h : isNo s = false) (hk : k < (sp s).length) (hr : okC ((sp s).getD k default) = false) : accC s = false ∧ lstC s = [] := by
  refine nC_all h ?_
  have e : (sp s).getD k default = (sp s)[k] := by simp [List.getD_eq_getElem?_getD, hk]
  rw [List.all_eq_false]
  exact ⟨(sp s)[k], List.getElem_mem hk, by rw [← e, hr]; decide⟩
theorem nC_yes {s : ByteArray} (h : isNo s = false) (hl : (sp s).length ≤ 256) (ha : (sp s).all okC = true) : accC s = true ∧ lstC s = (sp s).map vC := by
  have : accC s = true := by unfold accC; rw [h, ha, decide_eq_true hl]; rfl
  unfold lstC; rw [h, this]; exact ⟨rfl, rfl⟩
theorem nC_good {s : ByteArray} (h : isNo s = false) (hl : (sp s).length ≤ 256) (hr : ∀ k, k < (sp s).length → okC ((sp s).getD k default) = true) : accC s = true ∧ lstC s = (sp s).map vC := by
  refine nC_yes h hl ?_
  rw [List.all_eq_true]
  intro x hx
  obtain ⟨k, hk, rfl⟩ := List.getElem_of_mem hx
  have e : (sp s).getD k default = (sp s)[k] := by simp [List.getD_eq_getElem?_getD, hk]
  rw [← e]; exact hr k hk
theorem nC_text {s : ByteArray} (hz : ∀ k, k < (sp s).length → ((sp s).getD k default).size = 16) : (textL (((sp s).map vC).map hexC) == s.data.toList) = (sp s).all okC := by
  have hz' : ∀ p ∈ sp s, p.size = 16 := by
    intro p hp
    obtain ⟨k, hk, rfl⟩ := List.getElem_of_mem hp
    have e : (sp s).getD k default = (sp s)[k] := by simp [List.getD_eq_getElem?_getD, hk]
    rw [← e]; exact hz k hk
  have ht : textL (((sp s).map vC).map hexC) = Lib.join (((sp s).map vC).map hexC) [44] := by
    unfold textL
    rw [if_neg (by simp [sp_ne])]
  rw [ht, ← join_sp s]
  cases ha : (sp s).all okC
  · rw [beq_eq_false_iff_ne]
    intro e
    have e2 := join_inj2 (n := 16) (by simp) (by
      intro x hx
      simp only [List.mem_map] at hx
      obtain ⟨v, _, rfl⟩ := hx
      exact hexC_len _) (by
      intro x hx
      simp only [List.mem_map] at hx
      obtain ⟨p, hp, rfl⟩ := hx
      rw [len_data]; exact hz' p hp) e
    rw [List.map_map] at e2
    have : (sp s).all okC = true := by
      rw [List.all_eq_true]
      intro p hp
      have := List.map_inj_left.1 e2 p hp
      rw [okC_iff (hz' p hp)]
      simpa using this
    rw [this] at ha
    cases ha
  · rw [beq_iff_eq]
    congr 1
    rw [List.map_map]
    refine List.map_congr_left fun p hp => ?_
    have := List.all_eq_true.1 ha p hp
    rw [okC_iff (hz' p hp)] at this
    simpa using this

end Go.Proofs.YtiabbafmjgiobaaGreatDoor

/-
Texts of lists of complex numbers read back: the reference, walked.
-/
set_option linter.unusedVariables false
set_option linter.unusedSimpArgs false
namespace Go.Proofs.YtiabbafmjgiobaaGreatDoor
open Fl Go Go.RowKit

def cxV (c : Nat × Nat) : Value := .complex .f32 c.1 c.2
/-- a list of complex64 that was made from block 'base' on -/
def OwnC (base : Nat) (xs : List (Nat × Nat)) (v : Value) (w : World) : Prop :=
  ∃ A cap, v = .slice A xs.length cap ∧ w.ownsRow base 24 1 v xs.length (xs.map cxV)
theorem OwnC.keep {base : Nat} {xs : List (Nat × Nat)} {v : Value} {w w' : World} (h : OwnC base xs v w) (hb : Below w.heap.size w w') : OwnC base xs v w' := by
  obtain ⟨A, cap, rfl, h1⟩ := h
  exact ⟨A, cap, rfl, own_keep h1 hb⟩
theorem OwnC.nil (base : Nat) (w : World) : OwnC base [] (.slice none 0 0) w := ⟨none, 0, rfl, rfl, .inl ⟨rfl, rfl⟩⟩
def CReadGives (s : ByteArray) (w : World) (e : Ending) (w' : World) : Prop :=
  ∃ v, e = .returned (.tuple #[v, .bool (accC s)]) ∧ OwnC w.heap.size (lstC s) v w' ∧ Below w.heap.size w w'
theorem mapC_snoc (s : ByteArray) {k : Nat} (hk : k < (sp s).length) : ((sp s).take k).map vC ++ [vC ((sp s).getD k default)] = ((sp s).take (k + 1)).map vC := by
  have e : (sp s).getD k default = (sp s)[k] := by simp [List.getD_eq_getElem?_getD, hk]
  rw [List.take_succ_eq_append_getElem hk, List.map_append, e]
  rfl
theorem infoC : (Tryz.prog.info? 24).map (fun i => (i.zero, i.size, i.bytes)) = some (some (.complex .f32 0 0), 1, 8) := by kernel_rfl


end Go.Proofs.YtiabbafmjgiobaaGreatDoor

/-
A piece of 8 bytes read as a number: the program.
-/
set_option linter.unusedVariables false
set_option linter.unusedSimpArgs false
namespace Go.Proofs.YtiabbafmjgiobaaGreatDoor
open Fl Go Go.RowKit

set_option maxRecDepth 100000 in
theorem c_parseUint (p : ByteArray) (hs : p.size = 8) (w : World) (he : Errs w) : Calls Tryz.prog 76 #[.string p, .int .i64 16, .int .i64 32] w fun e w' => ∃ r, e = .returned (.tuple #[.int .u64 (vH p : Int), r]) ∧ Below w.heap.size w w' := by
  have H := c_innerParse p hs w
  have hB := Lib.bytesWorld_below w 5 p
  have HE := hide_ (he.keep hB)
  generalize Lib.bytesWorld w 5 p = W1 at H hB HE
  have hv1 : vH p = (pz 0 p.data.toList).getD 0 := rfl
  cases hp : pz 0 p.data.toList with
  | some v =>
    rw [hp] at H hv1
    have H1 : Hid (Calls Tryz.prog 92 #[.string p, .int .i64 16, .int .i64 32] w fun e w' => e = .returned (.tuple #[.int .u64 (v : Int), .nilIface]) ∧ w' = W1) := H
    have HV : Hid (vH p = v) := hv1
    have HB := hide_ hB
    clear H hv1 hB hp he
    go_enter Tryz.func76, Tryz.ntmps76
    go_wp2_with fail
    go_at_call 92
    refine Calls.mono H1.out ?_
    rintro e w' ⟨rfl, rfl⟩
    go_wp2_with fail
    go_ret2
    exact ⟨_, by rw [HV.out]; rfl, HB.out⟩
  | none =>
    rw [hp] at H hv1
    have H1 : Hid (Calls Tryz.prog 92 #[.string p, .int .i64 16, .int .i64 32] w fun e w' => e = .returned (.tuple #[.int .u64 0, .iface 129 (.int .i64 2)]) ∧ w' = W1) := H
    have HV : Hid (vH p = 0) := hv1
    have HB := hide_ hB
    obtain ⟨⟨t1, p1, h1⟩, _⟩ := HE.out
    have HT := hide_ (Tryz.strconv_toError_syntax ⟨#[80, 97, 114, 115, 101, 85, 105, 110, 116]⟩ p 16 32 _ W1 (by omega) h1 (.inr ⟨_, _, rfl⟩))
    clear H hv1 hB hp he h1
    go_enter Tryz.func76, Tryz.ntmps76
    go_wp2_with fail
    go_at_call 92
    refine Calls.mono H1.out ?_
    rintro e w' ⟨rfl, rfl⟩
    go_wp2_with fail
    go_at_call 93
    refine Calls.mono HT.out ?_
    rintro e w2 ⟨N, rfl, _, _, hB2⟩
    have HB2 := hide_ (HB.out.trans (hB2.mono HB.out.size))
    clear hB2
    go_wp2_with fail
    go_ret2
    exact ⟨_, by rw [HV.out]; rfl, HB2.out⟩
theorem c_readHex (p : ByteArray) (hs : p.size = 8) (w : World) (he : Errs w) : Calls Tryz.prog 50 #[.string p] w fun e w' => e = .returned (.float .f32 (vH p)) ∧ Below w.heap.size w w' := by
  have H := hide_ (c_parseUint p hs w he)
  have hl := vH_lt hs
  generalize vH p = v at *
  have hvI : (v : Int) < 4294967296 := by omega
  clear he
  go_enter Tryz.func50, Tryz.ntmps50
  go_wp2_with fail
  go_at_call 76
  refine Calls.mono H.out ?_
  rintro e w1 ⟨r, rfl, hB⟩
  have HB := hide_ hB
  clear hB
  go_wp2_with fail
  go_ret
  exact ⟨rfl, HB.out⟩

end Go.Proofs.YtiabbafmjgiobaaGreatDoor

/-
Contracts of Go's library at this program, in plain words (written by the kit's lay-shelf and lay-plain, the parts that are used here). No condition.
-/
namespace Go.Proofs
open Go.Shelf
def Tryz.lays146_ren : Go.Shelf.Ren := ⟨fun | 146 => 75 | 221 => 91 | 268 => 103 | 138 => 104 | 143 => 105 | 195 => 119 | 197 => 120 | 218 => 121 | 219 => 122 | 260 => 128 | 217 => 129 | 225 => 130 | 224 => 131 | 267 => 132 | 266 => 134 | 314 => 135 | n => n, fun | 9 => 9 | 31 => 69 | 3 => 3 | 4 => 4 | 0 => 0 | 105 => 145 | 21 => 21 | 5 => 5 | 46 => 102 | 119 => 158 | 139 => 161 | 138 => 160 | 146 => 122 | 51 => 79 | n => n, fun | 1 => 4 | 3 => 7 | 4 => 8 | n => n⟩
theorem Tryz.lays146 : Go.Proofs.Lays.n146 Tryz.prog Tryz.lays146_ren := {
  mixed := by kernel_rfl
  f138 := Tryz.func104.trans (congrArg some (by kernel_rfl))
  f143 := Tryz.func105.trans (congrArg some (by kernel_rfl))
  f146 := Tryz.func75.trans (congrArg some (by kernel_rfl))
  f195 := Tryz.func119.trans (congrArg some (by kernel_rfl))
  f197 := Tryz.func120.trans (congrArg some (by kernel_rfl))
  f217 := Tryz.func129.trans (congrArg some (by kernel_rfl))
  f218 := Tryz.func121.trans (congrArg some (by kernel_rfl))
  f219 := Tryz.func122.trans (congrArg some (by kernel_rfl))
  f221 := Tryz.func91.trans (congrArg some (by kernel_rfl))
  f224 := Tryz.func131.trans (congrArg some (by kernel_rfl))
  f225 := Tryz.func130.trans (congrArg some (by kernel_rfl))
  f260 := Tryz.func128.trans (congrArg some (by kernel_rfl))
  f266 := Tryz.func134.trans (congrArg some (by kernel_rfl))
  f267 := Tryz.func132.trans (congrArg some (by kernel_rfl))
  f268 := Tryz.func103.trans (congrArg some (by kernel_rfl))
  f314 := Tryz.func135.trans (congrArg some (by kernel_rfl))
  t0 := Tryz.underlying0
  a0 := Tryz.isAgg0
  z0 := Tryz.sizeOf0
  v0 := Tryz.zeroValue0
  t3 := Tryz.underlying3
  a3 := Tryz.isAgg3
  z3 := Tryz.sizeOf3
  v3 := Tryz.zeroValue3
  t4 := Tryz.underlying4
  a4 := Tryz.isAgg4
  z4 := Tryz.sizeOf4
  v4 := Tryz.zeroValue4
  t5 := Tryz.underlying5
  a5 := Tryz.isAgg5
  z5 := Tryz.sizeOf5
  v5 := Tryz.zeroValue5
  t9 := Tryz.underlying9
  a9 := Tryz.isAgg9
  z9 := Tryz.sizeOf9
  v9 := Tryz.zeroValue9
  t21 := Tryz.underlying21
  a21 := Tryz.isAgg21
  z21 := Tryz.sizeOf21
  v21 := Tryz.zeroValue21
  t31 := Tryz.underlying69
  a31 := Tryz.isAgg69
  z31 := Tryz.sizeOf69
  v31 := Tryz.zeroValue69
  t46 := Tryz.underlying102
  a46 := Tryz.isAgg102
  z46 := Tryz.sizeOf102
  v46 := Tryz.zeroValue102
  t51 := Tryz.underlying79
  a51 := Tryz.isAgg79
  z51 := Tryz.sizeOf79
  v51 := Tryz.zeroValue79
  t105 := Tryz.underlying145
  a105 := Tryz.isAgg145
  z105 := Tryz.sizeOf145
  v105 := Tryz.zeroValue145
  t119 := Tryz.underlying158
  a119 := Tryz.isAgg158
  z119 := Tryz.sizeOf158
  t138 := Tryz.underlying160
  a138 := Tryz.isAgg160
  z138 := Tryz.sizeOf160
  v138 := Tryz.zeroValue160
  t139 := Tryz.underlying161
  a139 := Tryz.isAgg161
  z139 := Tryz.sizeOf161
  v139 := Tryz.zeroValue161
  t146 := Tryz.underlying122
  a146 := Tryz.isAgg122
  z146 := Tryz.sizeOf122
  v146 := Tryz.zeroValue122
  g1 := by kernel_rfl
  g3 := by kernel_rfl
  g4 := by kernel_rfl }
open Go.RowKit Go.Lib in
theorem Tryz.strings_Split (s sep : ByteArray) (m : Int) (w : World) (hs : s.size < 4294967281) (hm : w.cell? ⟨4, 0, none⟩ = some (.int .i64 m)) (h1 : 1 ≤ sep.size) :
    Calls Tryz.prog 75 #[.string s, .string sep] w fun e w' =>
      e = .returned (.slice (some ⟨w.heap.size, 0, none⟩) (Lib.countB s sep + 1) (Lib.countB s sep + 1)) ∧ w' = w.alloc (.cells ((Lib.splitB sep 0 (Lib.countB s sep) s).map Value.string).toArray 9) := Any.strings_Split Tryz.lays146 (by kernel_rfl) s sep m w hs hm h1
end Go.Proofs

/-
Texts of lists read back: the program.
-/
set_option linter.unusedVariables false
set_option linter.unusedSimpArgs false
namespace Go.Proofs.YtiabbafmjgiobaaGreatDoor
open Go Go.RowKit

/-- the library's variables: the powers, the errors, the bound of a search -/
def VarsM (w : World) : Prop := Vars w ∧ ∃ m, w.cell? ⟨4, 0, none⟩ = some (.int .i64 m)
theorem VarsM.keep {w w' : World} (h : VarsM w) (hb : Below w.heap.size w w') : VarsM w' := by
  obtain ⟨h1, m, h2⟩ := h
  have l := World.block_lt_of_cell? _ _ h2
  exact ⟨h1.keep hb, m, (hb.cell (p := ⟨4, 0, none⟩) l).trans h2⟩
def rawB (s : ByteArray) : Bool := isNo s || (sp s).all rP
def rawL (s : ByteArray) : List Int := if isNo s then [] else if rawB s then (sp s).map rN else []
theorem raw_none {s : ByteArray} (h : isNo s = true) : rawB s = true ∧ rawL s = [] := by
  unfold rawB rawL
  rw [h]
  exact ⟨rfl, rfl⟩
theorem raw_bad {s : ByteArray} {k : Nat} (h : isNo s = false) (hk : k < (sp s).length) (hr : rP ((sp s).getD k default) = false) : rawB s = false ∧ rawL s = [] := by
  have e : (sp s).getD k default = (sp s)[k] := by simp [List.getD_eq_getElem?_getD, hk]
  have ha : (sp s).all rP = false := by
    rw [List.all_eq_false]
    exact ⟨(sp s)[k], List.getElem_mem hk, by rw [← e, hr]; decide⟩
  have : rawB s = false := by unfold rawB; rw [h, ha]; rfl
  unfold rawL
  rw [h, this]
  exact ⟨rfl, rfl⟩
theorem raw_good {s : ByteArray} (h : isNo s = false) (hr : ∀ k, k < (sp s).length → rP ((sp s).getD k default) = true) : rawB s = true ∧ rawL s = (sp s).map rN := by
  have ha : (sp s).all rP = true := by
    rw [List.all_eq_true]
    intro x hx
    obtain ⟨k, hk, rfl⟩ := List.getElem_of_mem hx
    have e : (sp s).getD k default = (sp s)[k] := by simp [List.getD_eq_getElem?_getD, hk]
    rw [← e]; exact hr k hk
  have : rawB s = true := by unfold rawB; rw [h, ha]; rfl
  unfold rawL
  rw [h, this]
  exact ⟨rfl, rfl⟩
theorem raw_len (s : ByteArray) : (rawL s).length ≤ s.size + 1 := by
  unfold rawL
  have := sp_le s
  split
  · simp
  · split
    · simpa using this
    · simp
theorem raw_no {s : ByteArray} (h : rawB s = false) : numB s = false ∧ numL s = [] := by
  unfold rawB at h
  simp only [Bool.or_eq_false_iff] at h
  have : numB s = false := by unfold numB; rw [h.1, h.2]; simp
  unfold numL
  rw [h.1, this]
  exact ⟨rfl, rfl⟩
theorem raw_fit {s : ByteArray} (h : rawB s = true) (hl : (rawL s).length ≤ 64) : numB s = true ∧ numL s = rawL s := by
  cases hn : isNo s
  · have ha : (sp s).all rP = true := by unfold rawB at h; rw [hn] at h; exact h
    have e : rawL s = (sp s).map rN := by unfold rawL; rw [hn, h]; rfl
    have hl' : (sp s).length ≤ 64 := by rw [e] at hl; simpa using hl
    have hb : numB s = true := by unfold numB; rw [hn, ha, decide_eq_true hl']; rfl
    refine ⟨hb, ?_⟩
    unfold numL
    rw [hn, hb, e]
    rfl
  · have := num_none hn
    exact ⟨this.1, by rw [this.2, (raw_none hn).2]⟩
theorem raw_big {s : ByteArray} (h : rawB s = true) (hl : ¬ (rawL s).length ≤ 64) : numB s = false ∧ numL s = [] := by
  cases hn : isNo s
  · have e : rawL s = (sp s).map rN := by unfold rawL; rw [hn, h]; rfl
    refine num_long hn ?_
    rw [e] at hl
    simpa using hl
  · rw [(raw_none hn).2] at hl
    simp at hl

theorem c_piecesNone (s : ByteArray) (w : World) (h : isNo s = true) : Calls Tryz.prog 49 #[.string s] w fun e w' => e = .returned (.slice none 0 0) ∧ w = w' := by
  have hno : (s.toList == [110, 111, 110, 101]) = true := by rw [str_eqR]; exact h
  clear h
  go_enter Tryz.func49, Tryz.ntmps49
  go_wp2_with fail
  go_ret
  exact ⟨rfl, rfl⟩
theorem c_pieces (s : ByteArray) (w : World) (hm : s.size ≤ 1048576) (h : isNo s = false) (hv : VarsM w) : Calls Tryz.prog 49 #[.string s] w fun e w' => ∃ A c, e = .returned (.slice A (sp s).length c) ∧ Fs w' A (sp s) ∧ (∀ g, g < w.heap.size → NotAt A g) ∧ Below w.heap.size w w' := by
  have hno : (s.toList == [110, 111, 110, 101]) = false := by rw [str_eqR]; exact h
  obtain ⟨_, m, hmx⟩ := hv
  have S := Tryz.strings_Split s comma m w (by omega) hmx (by decide)
  have S2 : Hid (Calls Tryz.prog 75 #[.string s, .string ⟨#[44]⟩] w fun e w' => e = .returned (.slice (some ⟨w.heap.size, 0, none⟩) (sp s).length (sp s).length) ∧ Fs w' (some ⟨w.heap.size, 0, none⟩) (sp s) ∧ Below w.heap.size w w') := by
    refine Calls.mono S ?_
    rintro e w' ⟨rfl, rfl⟩
    have hl := sp_len s
    refine ⟨by rw [hl], ?_, (Below.refl _ _).alloc (Nat.le_refl _) _⟩
    have hsp := sp_le s
    refine Fs.of_own (base := w.heap.size) (n := (sp s).length) (cap := (sp s).length) ⟨by simp, .inr ⟨w.heap.size, (sp s).length, _, rfl, Nat.le_refl _, heap_alloc_new w _, Nat.le_refl _, by unfold maxLen; omega, ?_, ?_⟩⟩ rfl
    · simp [sp]
    · show List.take _ ((sp s).map Value.string) = _
      rw [Nat.mul_one, List.take_of_length_le (by simp)]
  clear h hmx S
  go_enter Tryz.func49, Tryz.ntmps49
  go_wp2_with fail
  go_at_call 75
  refine Calls.mono S2.out ?_
  rintro e w1 ⟨rfl, hF, hB⟩
  have HF := hide_ hF
  have HB := hide_ hB
  clear hF hB
  go_wp2_with fail
  go_ret
  first | exact ⟨_, ⟨_, rfl⟩, HF.out, fun g hg b off e => by cases e; omega, HB.out⟩ | exact ⟨_, _, rfl, HF.out, fun g hg b off e => by cases e; omega, HB.out⟩


end Go.Proofs.YtiabbafmjgiobaaGreatDoor

/-
Contracts of Go's library at this program, in plain words (written by the kit's lay-shelf and lay-plain, the parts that are used here). No condition.
-/
namespace Go.Proofs
open Go.Shelf
def Tryz.lays105_ren : Go.Shelf.Ren := ⟨fun | 105 => 73 | 212 => 85 | 99 => 86 | 165 => 87 | 166 => 88 | 170 => 89 | 169 => 90 | 263 => 98 | 264 => 99 | 206 => 100 | 240 => 101 | 241 => 102 | 276 => 117 | 277 => 118 | n => n, fun | 9 => 9 | 3 => 3 | 4 => 4 | 20 => 20 | 0 => 0 | 46 => 102 | 109 => 103 | 5 => 5 | 72 => 108 | 76 => 110 | 51 => 79 | 146 => 122 | 53 => 85 | 148 => 124 | 70 => 106 | 37 => 22 | 75 => 94 | 127 => 126 | 164 => 141 | 80 => 113 | n => n, fun | n => n⟩
theorem Tryz.lays105 : Go.Proofs.Lays.n105 Tryz.prog Tryz.lays105_ren := {
  mixed := by kernel_rfl
  f99 := Tryz.func86.trans (congrArg some (by kernel_rfl))
  f105 := Tryz.func73.trans (congrArg some (by kernel_rfl))
  f165 := Tryz.func87.trans (congrArg some (by kernel_rfl))
  f166 := Tryz.func88.trans (congrArg some (by kernel_rfl))
  f169 := Tryz.func90.trans (congrArg some (by kernel_rfl))
  f170 := Tryz.func89.trans (congrArg some (by kernel_rfl))
  f206 := Tryz.func100.trans (congrArg some (by kernel_rfl))
  f212 := Tryz.func85.trans (congrArg some (by kernel_rfl))
  f240 := Tryz.func101.trans (congrArg some (by kernel_rfl))
  f241 := Tryz.func102.trans (congrArg some (by kernel_rfl))
  f263 := Tryz.func98.trans (congrArg some (by kernel_rfl))
  f264 := Tryz.func99.trans (congrArg some (by kernel_rfl))
  f276 := Tryz.func117.trans (congrArg some (by kernel_rfl))
  f277 := Tryz.func118.trans (congrArg some (by kernel_rfl))
  t0 := Tryz.underlying0
  a0 := Tryz.isAgg0
  z0 := Tryz.sizeOf0
  v0 := Tryz.zeroValue0
  t3 := Tryz.underlying3
  a3 := Tryz.isAgg3
  z3 := Tryz.sizeOf3
  v3 := Tryz.zeroValue3
  t4 := Tryz.underlying4
  a4 := Tryz.isAgg4
  z4 := Tryz.sizeOf4
  v4 := Tryz.zeroValue4
  t5 := Tryz.underlying5
  a5 := Tryz.isAgg5
  z5 := Tryz.sizeOf5
  v5 := Tryz.zeroValue5
  t9 := Tryz.underlying9
  a9 := Tryz.isAgg9
  z9 := Tryz.sizeOf9
  v9 := Tryz.zeroValue9
  t20 := Tryz.underlying20
  a20 := Tryz.isAgg20
  z20 := Tryz.sizeOf20
  v20 := Tryz.zeroValue20
  t37 := Tryz.underlying22
  a37 := Tryz.isAgg22
  z37 := Tryz.sizeOf22
  v37 := Tryz.zeroValue22
  t46 := Tryz.underlying102
  a46 := Tryz.isAgg102
  z46 := Tryz.sizeOf102
  v46 := Tryz.zeroValue102
  t51 := Tryz.underlying79
  a51 := Tryz.isAgg79
  z51 := Tryz.sizeOf79
  v51 := Tryz.zeroValue79
  t53 := Tryz.underlying85
  a53 := Tryz.isAgg85
  z53 := Tryz.sizeOf85
  v53 := Tryz.zeroValue85
  t70 := Tryz.underlying106
  a70 := Tryz.isAgg106
  z70 := Tryz.sizeOf106
  v70 := Tryz.zeroValue106
  t72 := Tryz.underlying108
  a72 := Tryz.isAgg108
  z72 := Tryz.sizeOf108
  v72 := Tryz.zeroValue108
  t75 := Tryz.underlying94
  a75 := Tryz.isAgg94
  z75 := Tryz.sizeOf94
  v75 := Tryz.zeroValue94
  t76 := Tryz.underlying110
  a76 := Tryz.isAgg110
  z76 := Tryz.sizeOf110
  v76 := Tryz.zeroValue110
  t109 := Tryz.underlying103
  a109 := Tryz.isAgg103
  z109 := Tryz.sizeOf103
  v109 := Tryz.zeroValue103
  t127 := Tryz.underlying126
  a127 := Tryz.isAgg126
  z127 := Tryz.sizeOf126
  v127 := Tryz.zeroValue126
  t146 := Tryz.underlying122
  a146 := Tryz.isAgg122
  z146 := Tryz.sizeOf122
  v146 := Tryz.zeroValue122
  t148 := Tryz.underlying124
  a148 := Tryz.isAgg124
  z148 := Tryz.sizeOf124
  v148 := Tryz.zeroValue124
  t164 := Tryz.underlying141
  a164 := Tryz.isAgg141
  z164 := Tryz.sizeOf141
  v164 := Tryz.zeroValue141 }
theorem Tryz.Builder_Extra_105 : Builder.Extra Tryz.prog Tryz.lays105_ren := {
  sizeBuilder := by kernel_rfl
  liesBuilder := by kernel_rfl
  t5 := Tryz.underlying5
  a5 := Tryz.isAgg5
  z5 := Tryz.sizeOf5
  v5 := Tryz.zeroValue5
  infoByte := by kernel_rfl
  cellsByte := by kernel_rfl
  sizeByte := by kernel_rfl
  neB5 := by decide }
open Go.RowKit Go.Lib in
theorem Tryz.strings_Repeat (s : ByteArray) (c : Nat) (w : World) (hc : c ≤ 9223372036854775807) (hlen : s.size * c ≤ 140737488355328) :
    Calls Tryz.prog 73 #[.string s, .int .i64 c] w fun e w' => e = .returned (.string ⟨(Lib.repeatL s.data.toList c).toArray⟩) ∧ Below w.heap.size w w' := Any.strings_Repeat Tryz.lays105 Tryz.Builder_Extra_105 s c w hc hlen
end Go.Proofs

/-
The hexadecimal digits of a number in the program: strconv.FormatInt at base 16.
-/
set_option linter.unusedVariables false
set_option linter.unusedSimpArgs false
namespace Go.Proofs.YtiabbafmjgiobaaGreatDoor
open Fl Go Go.RowKit

/-- the one cell of the table of trailing zeros that base 16 looks at -/
def Tz (w : World) : Prop := w.cell? ⟨6, 15, none⟩ = some (.int .u8 4)
theorem Tz.keep {w w' : World} (h : Tz w) (hb : Below w.heap.size w w') : Tz w' := by
  have l := World.block_lt_of_cell? _ _ h
  exact (hb.cell (p := ⟨6, 15, none⟩) l).trans h

theorem c_tz64 (w : World) (h : Tz w) : Calls Tryz.prog 127 #[.int .u64 16] w fun e w' => e = .returned (.int .i64 4) ∧ w = w' := by
  have hc : w.cell? ⟨6, 15, none⟩ = some (.int .u8 4) := h
  clear h
  have hb : IntKind.u64.wrap (bits BinOp.and IntKind.u64 16 (IntKind.u64.wrap (-16)) * 285870213051353865) / 288230376151711744 = 15 := by decide
  go_enter Tryz.func127, Tryz.ntmps127
  go_wp2_with fail
  go_ret
  exact ⟨rfl, rfl⟩
theorem c_tz (w : World) (h : Tz w) : Calls Tryz.prog 116 #[.int .u64 16] w fun e w' => e = .returned (.int .i64 4) ∧ w = w' := by
  have H := hide_ (c_tz64 w h)
  clear h
  go_enter Tryz.func116, Tryz.ntmps116
  go_wp2_with fail
  go_at_call 127
  refine Calls.mono H.out ?_
  rintro e w' ⟨rfl, rfl⟩
  go_wp2_with fail
  go_ret
  exact ⟨rfl, rfl⟩
theorem c_isPow (w : World) : Calls Tryz.prog 115 #[.int .i64 16] w fun e w' => e = .returned (.bool true) ∧ w = w' := by
  have hb : bits BinOp.and IntKind.i64 16 15 = 0 := by decide
  go_enter Tryz.func115, Tryz.ntmps115
  go_wp2_with fail
  go_ret
  exact ⟨rfl, rfl⟩
theorem and15_u64 (m : Nat) (hm : m < 18446744073709551616) : bits .and .u64 (m : Int) 15 = ((m % 16 : Nat) : Int) := by
  have h := bits_and_u64_nat m 15 hm (by decide)
  rw [show ((15 : Nat) : Int) = 15 from rfl] at h
  rw [h, show (15 : Nat) = 2 ^ 4 - 1 from rfl, Nat.and_two_pow_sub_one_eq_mod]
theorem hx36_at : ∀ d : Fin 16, (⟨#[48, 49, 50, 51, 52, 53, 54, 55, 56, 57, 97, 98, 99, 100, 101, 102, 103, 104, 105, 106, 107, 108, 109, 110, 111, 112, 113, 114, 115, 116, 117, 118, 119, 120, 121, 122]⟩ : ByteArray).data.toList[d.val]? = some (hd d.val) := by decide +kernel
theorem hx36 (d : Nat) (h : d < 16) : (⟨#[48, 49, 50, 51, 52, 53, 54, 55, 56, 57, 97, 98, 99, 100, 101, 102, 103, 104, 105, 106, 107, 108, 109, 110, 111, 112, 113, 114, 115, 116, 117, 118, 119, 120, 121, 122]⟩ : ByteArray)[d]'(Nat.lt_of_lt_of_le h (by decide)) = hd d := by
  have := hx36_at ⟨d, h⟩
  rw [List.getElem?_eq_getElem (by exact Nat.lt_of_lt_of_le h (by decide))] at this
  exact Option.some.inj this
theorem hex_small {n j : Nat} (hn : n < 4294967296) (hj : j ≤ 7) (h : 16 ≤ n / 16 ^ j) : j < 7 := by
  rcases Nat.lt_or_eq_of_le hj with h1 | h1
  · exact h1
  · subst h1
    have := Nat.div_lt_of_lt_mul (show n < 16 ^ 7 * 16 from Nat.lt_of_lt_of_le hn (by decide))
    omega
theorem hex_end {n j : Nat} (h : ¬ 16 ≤ n / 16 ^ j) : n < 16 ^ (j + 1) := by
  rw [Nat.pow_succ, Nat.mul_comm]
  exact (Nat.div_lt_iff_lt_mul (Nat.pow_pos (by decide))).1 (by omega)
/-- the library's array of digits under way -/
structure AD (w : World) (n j : Nat) (wr : World) : Prop where
  own : ∃ ys, wr.ownsRow w.heap.size 138 1 (.slice (some ⟨w.heap.size, 0, none⟩) 65 65) 65 ys ∧ ∀ p, p < j → ys[65 - j + p]? = ((hxL n j)[p]?).map byteV
  bel : Below w.heap.size w wr
theorem zero65 : Tryz.zeroCells138 = (List.replicate 65 (Value.int .u8 0)).toArray := by kernel_rfl
theorem AD.start (w : World) (n : Nat) : AD w n 0 (w.alloc (.cells Tryz.zeroCells138 138)) := by
  refine ⟨⟨List.replicate 65 (Value.int .u8 0), ⟨by simp, .inr ⟨w.heap.size, 65, (List.replicate 65 (Value.int .u8 0)).toArray, rfl, Nat.le_refl _, ?_, Nat.le_refl _, by unfold maxLen; omega, by simp, by simp⟩⟩, fun p hp => absurd hp (Nat.not_lt_zero _)⟩, (Below.refl _ _).alloc (Nat.le_refl _) _⟩
  rw [← zero65]
  exact heap_alloc_new w _
theorem AD.cell {w wr : World} {n j k : Nat} (h : AD w n j wr) (hk : k < 65) : (∃ u, wr.cell? ⟨w.heap.size, k, none⟩ = some u) ∧ wr.frozen? ⟨w.heap.size, k, none⟩ = false := by
  obtain ⟨ys, ho, hy⟩ := h.own
  have hl : ys.length = 65 * 1 := ho.1
  refine ⟨⟨ys[k]'(by omega), ?_⟩, ho.frozenAt k⟩
  rw [ho.cellAt k (by omega)]
  exact List.getElem?_eq_getElem (by omega)
theorem AD.step {w wr : World} {n j k : Nat} (h : AD w n j wr) (hk : k + 1 + j = 65) : AD w n (j + 1) (wr.setCell ⟨w.heap.size, k, none⟩ (byteV (hd (n / 16 ^ j % 16)))) := by
  obtain ⟨ys, ho, hy⟩ := h.own
  have hl : ys.length = 65 * 1 := ho.1
  refine ⟨⟨_, (ho.stored k _).1, fun p hp => ?_⟩, h.bel.setCell (Nat.le_refl _) _⟩
  rw [List.getElem?_set, hxL_top]
  cases p with
  | zero => rw [if_pos (by omega), if_pos (by omega)]; simp
  | succ q =>
    rw [if_neg (by omega), show 65 - (j + 1) + (q + 1) = 65 - j + q by omega, hy q (by omega)]
    simp
theorem AD.bytes {w wr : World} {n j k : Nat} (h : AD w n j wr) (hk : k + j = 65) (p : Nat) (hp : p < j) : wr.cell? ⟨w.heap.size, k + p, none⟩ = some (byteV ((hxL n j)[p]'(by rw [hxL_len]; exact hp))) := by
  obtain ⟨ys, ho, hy⟩ := h.own
  have := hy p hp
  rw [ho.cellAt (k + p) (by omega), show k + p = 65 - j + p by omega, this, List.getElem?_eq_getElem (by rw [hxL_len]; exact hp)]
  rfl
theorem slice65 (B k : Nat) (hk : k < 65) (W : World) : (Instr.sliceAt 138 (.pointer (some ⟨B, 0, none⟩)) (some (.int .i64 (k : Int))) none none).run Tryz.prog W = .ok (.slice (some ⟨B, k, none⟩) (65 - k) (65 - k)) W := by
  have hal : Tryz.prog.arrayLen 138 = 65 := by simp [Program.arrayLen, Tryz.underlying138]
  rw [run_sliceAt_array_l W 138 ⟨B, 0, none⟩ (by simp [Program.arrayLen, Program.elem, Tryz.underlying138]) .i64 (k : Int) (by omega) (by rw [hal]; omega)]
  have hk2 : ¬ 65 = k := by omega
  go_simp
set_option maxRecDepth 100000 in
theorem c_formatBits (n : Nat) (hn : n < 4294967296) (w : World) (h : Tz w) : Calls Tryz.prog 97 #[.slice none 0 0, .int .u64 n, .int .i64 16, .bool false, .bool false] w fun e w' => ∃ L, 1 ≤ L ∧ L ≤ 8 ∧ n < 16 ^ L ∧ e = .returned (.tuple #[.slice none 0 0, .string ⟨(hxL n L).toArray⟩]) ∧ Below w.heap.size w w' := by
  have HT := hide_ h
  clear h
  go_enter Tryz.func97, Tryz.ntmps97
  go_wp2_with fail
  go_at_call 115
  refine (c_isPow _).mono ?_
  rintro e w' ⟨rfl, rfl⟩
  go_wp2_with fail
  go_at_call 116
  refine (c_tz _ (HT.out.keep ((Below.refl _ _).alloc (Nat.le_refl _) _))).mono ?_
  rintro e w' ⟨rfl, rfl⟩
  go_wp2_with fail
  go_loopw [1, 13] (fun u i wr => ∃ j k : Nat, k + 1 + j = 65 ∧ j ≤ 7 ∧ u = .int .u64 (n / 16 ^ j : Nat) ∧ i = .int .i64 ((k : Int) + 1) ∧ AD w n j wr) (fun u i wr => (intOf u).toNat)
  case atStart => exact ⟨0, 64, rfl, by omega, by simp, rfl, AD.start w n⟩
  case round =>
    obtain ⟨j, k, hkj, hj7, rfl, rfl, R⟩ := hrel
    have HR := hide_ R
    clear R
    have HA := hide_ (HR.out.step hkj)
    obtain ⟨⟨u0, hcell⟩, hfz⟩ := HR.out.cell (k := k) (by omega)
    have HN16 := hide_ (Nat.pow_le_pow_right (n := 16) (by decide) hj7)
    have HSM := hide_ (fun h => hex_small (n := n) (j := j) hn hj7 h)
    have hml : n / 16 ^ j < 4294967296 := Nat.lt_of_le_of_lt (Nat.div_le_self _ _) hn
    have HE := hide_ (show n / 16 ^ (j + 1) = n / 16 ^ j / 16 by rw [Nat.div_div_eq_div_mul, Nat.pow_succ])
    have HLT := hide_ (fun h => hex_end (n := n) (j := j) h)
    generalize n / 16 ^ j = m at *
    have hmI : (m : Int) < 4294967296 := by omega
    have hd16 : m % 16 < 16 := Nat.mod_lt _ (by decide)
    have hgx := hx36 (m % 16) hd16
    have hb15 := and15_u64 m (by omega)
    by_cases hlt : 16 ≤ m
    · have hltI : (16 : Int) ≤ m := by omega
      have HM := hide_ (show ((m : Int) / 16) = ((m / 16 : Nat) : Int) by omega)
      generalize m % 16 = d at *
      have hd1 : (d : Int) < 16 := by omega
      have hd36 : (d : Int) < 36 := by omega
      have hk65 : (k : Int) < 65 := by omega
      go_wp2_with fail
      go_roundw
      case rel => exact ⟨j + 1, k - 1, by omega, by have := HSM.out hlt; omega, by rw [HE.out, HM.out], by congr 1; omega, HA.out⟩
      case measure => simp [intOf] <;> omega
    · have hltI : ¬ (16 : Int) ≤ m := by omega
      have hgx2 := hx36 m (by omega)
      rw [Nat.mod_eq_of_lt (show m < 16 by omega)] at HA
      have hk65 : (k : Int) < 65 := by omega
      have hd36 : (m : Int) < 36 := by omega
      have hsl := slice65 w.heap.size k (by omega)
      have hcv := run_convert_bytes_back (P := Tryz.prog) (wr.setCell ⟨w.heap.size, k, none⟩ (byteV (hd m))) 22 9 5 ⟨w.heap.size, k, none⟩ (65 - k) (hxL n (j + 1)) Tryz.underlying22 Tryz.underlying5 Tryz.underlying9 (fun p hp => by
        rw [Addr.add_lit]
        exact HA.out.bytes (by omega) p (by rw [hxL_len] at hp; exact hp))
      rw [hxL_len, show j + 1 = 65 - k by omega] at hcv
      rw [show 65 - k = j + 1 by omega] at hcv hsl
      unfold byteV at hcv
      have HA2 := hide_ HA.out.bel
      have HL := hide_ (HLT.out hlt)
      go_wp2_with fail
      go_ret2
      exact ⟨j + 1, by omega, by omega, HL.out, rfl, HA2.out⟩

end Go.Proofs.YtiabbafmjgiobaaGreatDoor

/-
A slice of float32 that came in, opened: the list that it reads as.
-/
namespace Go.Proofs.YtiabbafmjgiobaaGreatDoor
open Fl Go.RowKit Go.ChangeShapes Go.WideShapes Go.ChangeAt
set_option linter.unusedVariables false

theorem trod_f32 {H : Type} {enc : TypeId × Value → H} {P : Program} {w : World} {base : Nat} {spare : Nat → Bool} {held : Bool} {fuel : Nat} {t : TypeId} {k : FloatKind} {cs : List Value} {x : DataW H × List MemPlace}
    (ht : P.underlying t = some (.float k)) (h : DataW.trod enc P w base spare held fuel t cs = some x) : ∃ n, cs = [.float k n] ∧ (Lit.float k n).wf = true := by
  cases fuel with
  | zero => simp [DataW.trod] at h
  | succ n =>
    unfold DataW.trod at h
    rw [ht] at h
    split at h <;> simp_all

/-- a slice of float32 reads as a list -/
theorem open_f32s {H : Type} {enc : TypeId × Value → H} {P : Program} {w : World} {base : Nat} {spare : Nat → Bool} {held : Bool} {fuel : Nat} {t e : TypeId} {A : Option Addr} {n cap : Nat} {x : DataW H × List MemPlace}
    (ht : P.underlying t = some (.slice e)) (he : P.underlying e = some (.float .f32)) (hc : P.cellsOf e = 1)
    (h : DataW.trod enc P w base spare held fuel t [.slice A n cap] = some x) : ∃ xs, n = xs.length ∧ n ≤ maxLen ∧ Fl32 w A xs ∧ All32 xs := by
  rcases DataW.trod_slice ht h with ⟨h0, _⟩ | ⟨a, len, cap', elems, rest, m, _, h0, _, hb, hl, hm, hlen, hel, _, _⟩
  · simp only [List.cons.injEq, Value.slice.injEq, and_true] at h0
    obtain ⟨rfl, rfl, rfl⟩ := h0
    exact ⟨[], rfl, by unfold maxLen; omega, .inl rfl, fun j => by simp⟩
  · simp only [List.cons.injEq, Value.slice.injEq, and_true] at h0
    obtain ⟨rfl, rfl, rfl⟩ := h0
    have each : ∀ i, i < n → ∃ v, w.cell? (a.add i) = some (.float .f32 v) ∧ v < 4294967296 := by
      intro i hi
      have h1 := hel i hi
      rw [List.getElem?_eq_getElem (by omega), Option.bind_eq_some_iff] at h1
      obtain ⟨cs', hcs, hy⟩ := h1
      obtain ⟨v, rfl, hv⟩ := trod_f32 he hy
      rw [hc, Nat.mul_one] at hcs
      exact ⟨v, cell_of_cells?_one hcs, wf_lt hv⟩
    have pick : ∃ f : Nat → Nat, ∀ i, i < n → w.cell? (a.add i) = some (.float .f32 (f i)) ∧ f i < 4294967296 := by
      refine ⟨fun i => if h : i < n then Classical.choose (each i h) else 0, fun i hi => ?_⟩
      simp only [dif_pos hi]
      exact Classical.choose_spec (each i hi)
    obtain ⟨f, hf⟩ := pick
    refine ⟨(List.range n).map f, by simp, by omega, ?_, ?_⟩
    · by_cases hn : n = 0
      · left; subst hn; rfl
      · right
        obtain ⟨b, off, spot⟩ := a
        have hs := World.cell?_spot (hf 0 (by omega)).1
        have hspot : spot = none := by simpa [Addr.add] using hs
        subst hspot
        have hblk := World.block_lt_of_cell? _ _ (hf 0 (by omega)).1
        refine ⟨b, off, rfl, by simpa [Addr.add] using hblk, fun j hj => ?_⟩
        have hj' : j < n := by simpa using hj
        have h2 := (hf j hj').1
        have e : ((List.range n).map f).getD j 0 = f j := by simp [List.getD_eq_getElem?_getD, hj']
        rw [e]
        rw [Addr.add_lit] at h2
        exact h2
    · intro j
      by_cases hj : j < n
      · have e : ((List.range n).map f).getD j 0 = f j := by simp [List.getD_eq_getElem?_getD, hj]
        rw [e]; exact (hf j hj).2
      · have e : ((List.range n).map f).getD j 0 = 0 := by simp [List.getD_eq_getElem?_getD, hj]
        rw [e]; omega

theorem cells32 : Tryz.prog.cellsOf 28 = 1 := by kernel_rfl
set_option maxRecDepth 100000 in
/-- the same, of an argument -/
theorem open_list {H : Type} {enc : TypeId × Value → H} {w : World} {base0 base : Nat} {spare : Nat → Bool} {held : Bool} {v : Value} {d : DataW H} {ps : List MemPlace}
    (hv : Value.okWide Tryz.prog w .any base0 52 v) (h : DataW.Trod enc Tryz.prog w base spare held 52 v d ps) : ∃ A cap xs, v = .slice A xs.length cap ∧ xs.length ≤ maxLen ∧ Fl32 w A xs ∧ All32 xs := by
  obtain ⟨A, n, cap, rfl⟩ := okWide_slice Tryz.underlying52 hv
  obtain ⟨fuel, hf⟩ := h
  obtain ⟨xs, rfl, h1, h2, h3⟩ := open_f32s Tryz.underlying52 Tryz.underlying28 cells32 hf
  exact ⟨A, cap, xs, rfl, h1, h2, h3⟩

end Go.Proofs.YtiabbafmjgiobaaGreatDoor

/-
The texts of lists of numbers; the law on NumbersText.
-/
set_option linter.unusedVariables false
set_option linter.unusedSimpArgs false
namespace Go.Proofs.YtiabbafmjgiobaaGreatDoor
open Fl Go Go.RowKit

theorem rep48 (c : Nat) : Lib.repeatL [48] c = List.replicate c 48 := by
  induction c with
  | zero => rfl
  | succ c ih => rw [Lib.repeatL, ih]; rfl
theorem cat2' (T l : List UInt8) : (⟨T.toArray⟩ ++ ⟨l.toArray⟩ : ByteArray) = ⟨(T ++ l).toArray⟩ := by
  apply ByteArray.ext
  simp [ByteArray.data_append]
theorem c_formatInt16 (n : Nat) (hn : n < 4294967296) (w : World) (h : Tz w) : Calls Tryz.prog 84 #[.int .i64 n, .int .i64 16] w fun e w' => ∃ L, 1 ≤ L ∧ L ≤ 8 ∧ n < 16 ^ L ∧ e = .returned (.string ⟨(hxL n L).toArray⟩) ∧ Below w.heap.size w w' := by
  have H := hide_ (c_formatBits n hn w h)
  clear h
  have h0 : ¬ (n : Int) < 0 := by omega
  go_enter Tryz.func84, Tryz.ntmps84
  go_wp2_with fail
  go_at_call 97
  refine Calls.mono H.out ?_
  rintro e w' ⟨L, h1, h2, h3, rfl, hB⟩
  have HB := hide_ hB
  have H3 := hide_ h3
  clear hB h3
  go_wp2_with fail
  go_ret
  exact ⟨L, h1, h2, H3.out, rfl, HB.out⟩
theorem c_strFormatInt16 (n : Nat) (hn : n < 4294967296) (w : World) (h : Tz w) : Calls Tryz.prog 72 #[.int .i64 n, .int .i64 16] w fun e w' => ∃ L, 1 ≤ L ∧ L ≤ 8 ∧ n < 16 ^ L ∧ e = .returned (.string ⟨(hxL n L).toArray⟩) ∧ Below w.heap.size w w' := by
  have H := hide_ (c_formatInt16 n hn w h)
  clear h
  go_enter Tryz.func72, Tryz.ntmps72
  go_wp2_with fail
  go_at_call 84
  refine Calls.mono H.out ?_
  rintro e w' ⟨L, h1, h2, h3, rfl, hB⟩
  have HB := hide_ hB
  have H3 := hide_ h3
  clear hB h3
  go_wp2_with fail
  go_ret
  exact ⟨L, h1, h2, H3.out, rfl, HB.out⟩
set_option maxRecDepth 100000 in
theorem c_hexOf (x : Nat) (hx : x < 4294967296) (w : World) (h : Tz w) : Calls Tryz.prog 47 #[.float .f32 x] w fun e w' => e = .returned (.string ⟨(hex8 x).toArray⟩) ∧ Below w.heap.size w w' := by
  have HB := hide_ (c_implBitsOf x hx)
  rw [nb_eq] at HB
  have hn := nb_lt hx
  have HX := hide_ (show hex8 x = hxL (nb x) 8 from rfl)
  generalize nb x = n at *
  have HF := hide_ (c_strFormatInt16 n hn w h)
  clear h
  go_enter Tryz.func47, Tryz.ntmps47
  go_wp2_with (go_at_call 21; refine (HB.out _).mono ?_; rintro e w' ⟨rfl, rfl⟩)
  go_at_call 72
  refine Calls.mono HF.out ?_
  rintro e w1 ⟨L, h1, h2, h3, rfl, hB1⟩
  have B1 := hide_ hB1
  obtain ⟨c, hc⟩ : ∃ c, L + c = 8 := ⟨8 - L, by omega⟩
  have HZ := hide_ (hxL_zero n L h3 c)
  rw [Nat.add_comm c L, hc] at HZ
  have hl := hxL_len n L
  clear hB1 h3
  generalize hxL n L = T at *
  have hsub : (8 : Int) - (T.length : Int) = (c : Int) := by omega
  have hr0 := Tryz.strings_Repeat ⟨#[48]⟩ c w1 (by omega) (by rw [show (⟨#[48]⟩ : ByteArray).size = 1 from rfl, Nat.one_mul]; omega)
  rw [show (⟨#[48]⟩ : ByteArray).data.toList = [48] from rfl, rep48] at hr0
  have hrl : (List.replicate c (48 : UInt8)).length = c := List.length_replicate
  generalize List.replicate c (48 : UInt8) = R at hr0 hrl HZ
  have HR := hide_ hr0
  clear hr0
  have hno : ¬ 9223372036854775807 < R.length + T.length := by omega
  have HC := hide_ (cat2' R T)
  clear hrl hl hc h1 h2 hn hx HF HB
  go_wp2_with fail
  go_at_call 73
  refine Calls.mono HR.out ?_
  rintro e w2 ⟨rfl, hB2⟩
  have B2 := hide_ (B1.out.trans (hB2.mono B1.out.size))
  clear hB2
  go_wp2_with fail
  go_ret
  exact ⟨by rw [HX.out, HZ.out, ← HC.out]; rfl, B2.out⟩


/-- what NumbersText gives -/
def numT (xs : List Nat) : Bool := decide (xs.length ≤ 256)
def numX (xs : List Nat) : List UInt8 := if numT xs then textL (xs.map hex8) else []
def NTextGives (xs : List Nat) (w : World) (e : Ending) (w' : World) : Prop :=
  e = .returned (.tuple #[.string ⟨(numX xs).toArray⟩, .bool (numT xs)]) ∧ Below w.heap.size w w'
theorem numT_yes {xs : List Nat} (h : xs.length ≤ 256) : numT xs = true ∧ numX xs = textL (xs.map hex8) := by
  have e : numT xs = true := decide_eq_true h
  refine ⟨e, ?_⟩
  unfold numX
  rw [e]; rfl
theorem numT_no {xs : List Nat} (h : ¬ xs.length ≤ 256) : numT xs = false ∧ numX xs = [] := by
  have e : numT xs = false := decide_eq_false h
  refine ⟨e, ?_⟩
  unfold numX
  rw [e]; rfl


theorem infoSh : (Tryz.prog.info? 9).map (fun i => (i.zero, i.size, i.bytes)) = some (some (.string ByteArray.empty), 1, 16) := by kernel_rfl
theorem own_belowH {w w' : World} {base : Nat} {e : TypeId} {size n : Nat} {v : Value} {xs : List Value} (h : w.ownsRow base e size v n xs) (hb : Below w.heap.size w w') : w'.ownsRow base e size v n xs := by
  obtain ⟨hl, hr⟩ := h
  refine ⟨hl, ?_⟩
  rcases hr with hr | ⟨g, cp, cur, hv, hg, hh, hr⟩
  · exact .inl hr
  · exact .inr ⟨g, cp, cur, hv, hg, by rw [hb.block g (Array.getElem?_eq_some_iff.1 hh).1]; exact hh, hr⟩
theorem form_H {w : World} {base : Nat} {e : TypeId} {size n : Nat} {v : Value} {xs : List Value} (h : w.ownsRow base e size v n xs) : ∃ A c, v = .slice A n c := by
  rcases h.2 with ⟨rfl, rfl⟩ | ⟨g, cp, cur, hv, _⟩
  · exact ⟨_, _, rfl⟩
  · exact ⟨_, _, hv⟩
theorem own_strs_H {ds : List (List UInt8)} {k : Nat} {d : List UInt8} (hd : ds[k]? = some d) : (ds.take k).map strV ++ [strV d] = (ds.take (k + 1)).map strV := by
  rw [List.take_add_one, hd]; simp
set_option maxRecDepth 100000 in
theorem c_implNText (A : Option Addr) (c : Nat) (xs : List Nat) (w : World) (hA : Fl32 w A xs) (ax : All32 xs) (hm : xs.length ≤ 9223372036854775807) (ht : Tz w) : Calls Tryz.prog 31 #[.slice A xs.length c] w (NTextGives xs w) := by
  unfold NTextGives
  by_cases h256 : xs.length ≤ 256
  · obtain ⟨i0, hi, hz0, hz1, hz2⟩ := info_parts infoSh
    have HN := hide_ (numT_yes h256)
    have hds : ∀ j, j < xs.length → (xs.map hex8)[j]? = some (hex8 (xs.getD j 0)) := by
      intro j hj
      simp [List.getD_eq_getElem?_getD, hj]
    have hB : ∀ d ∈ xs.map hex8, d.length ≤ 100 := by
      intro d hd
      simp only [List.mem_map] at hd
      obtain ⟨n, hn, rfl⟩ := hd
      unfold hex8
      rw [hxL_len]; omega
    have HA := hide_ hA
    have AX := hide_ ax
    have HD := hide_ hds
    have HT := hide_ ht
    have HJ := hide_ (c_joined w.heap.size (xs.map hex8) · · · hB (by simp; omega))
    have h256I : ¬ (256 : Int) < xs.length := by omega
    clear hA ax hds hB ht
    go_enter Tryz.func31, Tryz.ntmps31
    go_wp2_with fail
    go_loopw [4, 13] (fun out i wr => ∃ (k : Nat) (A' : Option Addr) (c' : Nat), k ≤ xs.length ∧ i = .int .i64 k ∧ out = .slice A' k c' ∧ wr.ownsRow w.heap.size 9 1 (.slice A' k c') k (((xs.map hex8).take k).map strV) ∧ Below w.heap.size w wr) (fun out i wr => xs.length - (intOf i).toNat)
    case atStart => exact ⟨0, _, _, Nat.zero_le _, rfl, rfl, ⟨rfl, .inr ⟨w.heap.size, 0, #[], rfl, Nat.le_refl _, heap_alloc_new w _, Nat.le_refl _, by unfold maxLen; omega, rfl, rfl⟩⟩, (Below.refl _ _).alloc (Nat.le_refl _) _⟩
    case round =>
      obtain ⟨k, A', c', hk, rfl, rfl, ho, R⟩ := hrel
      have HO := hide_ ho
      have HR := hide_ R
      clear ho R
      by_cases hlt : k < xs.length
      · obtain ⟨b, off, rfl, hb, hc⟩ := HA.out.of_pos (by omega)
        have hcell := (HR.out.cell (p := ⟨b, off + k, none⟩) hb).trans (hc k hlt)
        have DK := hide_ (c_hexOf (xs.getD k 0) (AX.out k) wr (HT.out.keep HR.out))
        have TD := hide_ (HD.out k hlt)
        clear hc
        generalize hxk : xs.getD k 0 = xk at hcell DK TD
        clear hxk
        go_wp2_with fail
        go_at_call 47
        refine Calls.mono DK.out ?_
        rintro e w2 ⟨rfl, hB2⟩
        have HO2 := hide_ (own_belowH HO.out hB2)
        have HR2 := hide_ (HR.out.trans (hB2.mono HR.out.size))
        have hsz2 : w.heap.size ≤ w2.heap.size := HR2.out.size
        clear hB2 HO hcell DK
        go_wp2_with (at_builtin; refine wpList_append_own_at _ rfl (.tmp 17) (.tmp 20) 69 rfl w.heap.size 9 i0 (.string ByteArray.empty) 1 16 Tryz.underlying69 hi hz0 hz1 hz2 rfl (by decide) (.slice A' k c') k _ rfl (World.ownsRow.alloc HO2.out _) ⟨w2.heap.size, 0, none⟩ 1 1 [strV (hex8 xk)] rfl rfl (news_at _ _ _ rfl) (fun u hu => by simp at hu; subst hu; rfl) (by unfold maxLen; omega) (by omega) (by simp; omega) ?_; intro v' w3 hown hgrow _ _; rw [own_strs_H TD.out] at hown; obtain ⟨A3, c3, rfl⟩ := form_H hown; have HO3 := hide_ hown; have HR3 := hide_ ((HR2.out.alloc hsz2 (Obj.cells #[strV (hex8 xk)] 9)).grown hgrow (by simp; omega) (fun q hq => (World.ownsRow.lt HO2.out q hq).1)); clear hown hgrow)
        go_roundw
        case rel => exact ⟨k + 1, A3, c3, by omega, by go_num, rfl, HO3.out, HR3.out⟩
        case measure => simp [intOf]; omega
      · obtain rfl : k = xs.length := by omega
        have ho : wr.ownsRow w.heap.size 9 1 (.slice A' xs.length c') (xs.map hex8).length ((xs.map hex8).map strV) := by
          have := HO.out
          rw [List.take_of_length_le (by simp)] at this
          rw [List.length_map]
          exact this
        have JJ := hide_ (HJ.out _ _ ho)
        clear ho
        go_wp2_with fail
        go_at_call 48
        refine Calls.mono JJ.out ?_
        rintro e w2 ⟨rfl, hB2⟩
        have HR2 := hide_ (HR.out.trans (hB2.mono HR.out.size))
        clear hB2
        go_wp2_with fail
        go_ret2
        exact ⟨by rw [HN.out.1, HN.out.2]; rfl, HR2.out⟩
  · have HN := hide_ (numT_no h256)
    have h256I : (256 : Int) < xs.length := by omega
    clear hA ax ht
    go_enter Tryz.func31, Tryz.ntmps31
    go_wp2_with fail
    go_ret2
    exact ⟨by rw [HN.out.1, HN.out.2]; rfl, Below.refl _ _⟩


end Go.Proofs.YtiabbafmjgiobaaGreatDoor

/-
Texts of lists of numbers read back: the program, walked.
-/
set_option linter.unusedVariables false
set_option linter.unusedSimpArgs false
namespace Go.Proofs.YtiabbafmjgiobaaGreatDoor
open Fl Go Go.RowKit

theorem info32t : (Tryz.prog.info? 28).map (fun i => (i.zero, i.size, i.bytes)) = some (some (.float .f32 0), 1, 4) := by kernel_rfl
theorem own_fl {base n : Nat} {xs : List Nat} {A : Option Addr} {cap : Nat} {w : World} (h : w.ownsRow base 28 1 (.slice A n cap) n (xs.map (Value.float .f32))) (hn : n = xs.length) : Fl32 w A xs := by
  subst hn
  rcases h.2 with ⟨hv, hn⟩ | ⟨g, cp, cur, hv, hb, hh, hr⟩
  · exact .inl (List.eq_nil_of_length_eq_zero hn)
  · simp only [Value.slice.injEq] at hv
    obtain ⟨rfl, _, rfl⟩ := hv
    refine .inr ⟨g, 0, rfl, (Array.getElem?_eq_some_iff.1 hh).1, fun j hj => ?_⟩
    rw [Nat.zero_add, h.cellAt j (by omega), List.getElem?_map, List.getElem?_eq_getElem hj]
    simp [List.getD_eq_getElem?_getD, hj]
theorem all_vH {s : ByteArray} (hz : ∀ k, k < (sp s).length → ((sp s).getD k default).size = 8) : All32 ((sp s).map vH) := by
  intro j
  by_cases hj : j < (sp s).length
  · have e : ((sp s).map vH).getD j 0 = vH ((sp s).getD j default) := by simp [List.getD_eq_getElem?_getD, hj]
    rw [e]
    exact vH_lt (hz j hj)
  · have e : ((sp s).map vH).getD j 0 = 0 := by simp [List.getD_eq_getElem?_getD, hj]
    rw [e]; decide

set_option maxRecDepth 100000 in
set_option maxHeartbeats 4000000 in
theorem c_implReadNumbers (s : ByteArray) (w : World) (hm : s.size ≤ 1048576) (hv : VarsM w) (hz : Tz w) : Calls Tryz.prog 32 #[.string s] w (NReadGives s w) := by
  obtain ⟨i0, hi, hz0, hz1, hz2⟩ := info_parts info32t
  unfold NReadGives
  have HV0 := hide_ hv
  have HZ0 := hide_ hz
  cases hn : isNo s
  · have HC1 := hide_ (c_pieces s (w.alloc (.cells #[] 28)) hm hn (hv.keep ((Below.refl w.heap.size w).alloc (Nat.le_refl _) _)))
    have hsp := sp_le s
    have HN := hide_ hn
    clear hn hv hz
    go_enter Tryz.func32, Tryz.ntmps32
    go_wp2_with fail
    go_at_call 49
    refine Calls.mono HC1.out ?_
    rintro e w1 ⟨A, c, rfl, hF, hNA, hB⟩
    have HF := hide_ hF
    have HNA := hide_ (hNA w.heap.size (by simp))
    have HO1 := hide_ (own_keep (own_new w 28 w.heap.size (Nat.le_refl _)) hB)
    have HB1 := hide_ (((Below.refl w.heap.size w).alloc (Nat.le_refl _) (.cells #[] 28)).trans (hB.mono (by simp)))
    clear hF hNA hB
    go_wp2_with fail
    go_loopw [4, 13] (fun out i wr => ∃ (k : Nat) (A' : Option Addr) (c' : Nat), k ≤ (sp s).length ∧ k ≤ 256 ∧ i = .int .i64 k ∧ out = .slice A' k c' ∧ wr.ownsRow w.heap.size 28 1 (.slice A' k c') k ((((sp s).take k).map vH).map (Value.float .f32)) ∧ Below w.heap.size w wr ∧ Fs wr A (sp s) ∧ (∃ g, A' = some ⟨g, 0, none⟩ ∧ NotAt A g) ∧ ∀ j, j < k → ((sp s).getD j default).size = 8) (fun out i wr => (sp s).length - (intOf i).toNat)
    case atStart => exact ⟨0, _, _, Nat.zero_le _, Nat.zero_le _, rfl, rfl, HO1.out, HB1.out, HF.out, ⟨_, rfl, HNA.out⟩, fun j hj => absurd hj (Nat.not_lt_zero _)⟩
    case round =>
      obtain ⟨k, A', c', hk, hk6, rfl, rfl, ho, R, F, ⟨g, rfl, hna⟩, P⟩ := hrel
      have HNg := hide_ hna
      have HO := hide_ ho
      have HR := hide_ R
      have HF' := hide_ F
      have HPk := hide_ P
      clear ho R F P hna HO1 HB1 HF HNA
      by_cases hlt : k < (sp s).length
      · obtain ⟨b, off, rfl, hb, hc⟩ := HF'.out.of_pos (by omega)
        have hcell := hc k hlt
        have HM := hide_ (mapF_snoc s hlt)
        have HBD := hide_ (nN_bad HN.out hlt)
        have HLG := hide_ (fun h => nN_long (s := s) HN.out h)
        clear hc
        have hltI : (k : Int) < (sp s).length := by omega
        generalize hp : (sp s).getD k default = p at hcell HM HBD
        have HPp := hide_ hp
        clear hp
        by_cases h8 : p.size = 8
        · have h8N : ((p.size : Int) != 8) = false := by rw [bne, beq_iff_eq.2 (show (p.size : Int) = 8 by omega)]; rfl
          by_cases h256 : k = 256
          · have hkI : ((k : Int) == 256) = true := beq_iff_eq.2 (by omega)
            have HQ := hide_ (HLG.out (by omega))
            have HP8 := hide_ h8
            clear h8 h256
            go_wp2_with fail
            go_ret2
            exact ⟨_, by rw [HQ.out.1]; rfl, by rw [HQ.out.2]; exact OwnF.nil _ _, HR.out⟩
          · have hkI : ((k : Int) == 256) = false := beq_eq_false_iff_ne.2 (by omega)
            have HRH := hide_ (c_readHex p h8 wr (HV0.out.keep HR.out).1.2)
            have HP8 := hide_ h8
            clear h8
            go_wp2_with fail
            go_at_call 50
            refine Calls.mono HRH.out ?_
            rintro e w2 ⟨rfl, hB2⟩
            have HO2 := hide_ (own_keep HO.out hB2)
            have HR2 := hide_ (HR.out.trans (hB2.mono HR.out.size))
            have HF2 := hide_ (HF'.out.keep hB2 (Nat.le_refl _))
            have hsz2 : w.heap.size ≤ w2.heap.size := HR2.out.size
            have hszr : wr.heap.size ≤ w2.heap.size := hB2.size
            clear hB2
            go_wp2_with (at_builtin; refine wpList_append_own_at _ rfl (.tmp 25) (.tmp 28) 52 rfl w.heap.size 28 i0 (.float .f32 0) 1 4 Tryz.underlying52 hi hz0 hz1 hz2 rfl (by decide) (.slice (some ⟨g, 0, none⟩) k c') k _ rfl (World.ownsRow.alloc HO2.out _) ⟨w2.heap.size, 0, none⟩ 1 1 [.float .f32 (vH p)] rfl rfl (news_at _ _ _ rfl) (fun u hu => by simp at hu; subst hu; rfl) (by unfold maxLen; omega) (by omega) (by simp; omega) ?_; intro v' w3 hown hgrow hni hob; have HF3 := hide_ ((HF2.out.keep ((Below.refl w2.heap.size w2).alloc (Nat.le_refl _) (Obj.cells #[.float .f32 (vH p)] 28)) (Nat.le_refl _)).grown hgrow HNg.out); have hbg := hgrow.size; obtain ⟨A3, c3, rfl⟩ := own_form hown; have HOB := hide_ (ob_some hni hob hown); have HO3 := hide_ hown; have HR3 := hide_ ((HR2.out.alloc hsz2 (Obj.cells #[.float .f32 (vH p)] 28)).grown hgrow (by simp; omega) (fun q hq => (World.ownsRow.lt HO2.out q hq).1)); clear hown hgrow hni hob)
            go_roundw
            case rel =>
              obtain ⟨g3, rfl, hg3⟩ := HOB.out
              refine ⟨k + 1, _, c3, by omega, by omega, by go_num, rfl, by have := HO3.out; rw [← List.map_singleton (f := Value.float .f32), ← List.map_append, HM.out] at this; exact this, HR3.out, HF3.out, ⟨g3, rfl, ?_⟩, fun j hj => ?_⟩
              · rcases hg3 with rfl | rfl
                · exact HNg.out
                · intro b' off' e
                  simp only [Option.some.injEq, Addr.mk.injEq] at e
                  have hb' := e.1
                  simp only [World.size_alloc] at *
                  omega
              · rcases Nat.lt_or_eq_of_le (Nat.le_of_lt_succ hj) with h | h
                · exact HPk.out j h
                · rw [h, HPp.out]; exact HP8.out
            case measure => simp [intOf] <;> omega
        · have h8N : ((p.size : Int) != 8) = true := by rw [bne_iff_ne]; omega
          have HQ := hide_ (HBD.out (okH_size h8))
          clear h8
          go_wp2_with fail
          go_ret2
          exact ⟨_, by rw [HQ.out.1]; rfl, by rw [HQ.out.2]; exact OwnF.nil _ _, HR.out⟩
      · obtain rfl : k = (sp s).length := by omega
        have ho2 := HO.out
        rw [List.take_length] at ho2
        have hT := c_implNText (some ⟨g, 0, none⟩) c' ((sp s).map vH) wr (own_fl ho2 (by simp)) (all_vH HPk.out) (by simp; omega) (HZ0.out.keep HR.out)
        unfold NTextGives at hT
        rw [(numT_yes (xs := (sp s).map vH) (by simpa using hk6)).1, (numT_yes (xs := (sp s).map vH) (by simpa using hk6)).2, List.length_map] at hT
        have hte := nN_text HPk.out
        have HOO : Hid (OwnF w.heap.size ((sp s).map vH) (.slice (some ⟨g, 0, none⟩) (sp s).length c') wr) := ⟨some ⟨g, 0, none⟩, c', by simp, by simpa using ho2⟩
        have HQ : Hid ((sp s).all okH = false → accN s = false ∧ lstN s = []) := nN_all HN.out
        have HY : Hid ((sp s).all okH = true → accN s = true ∧ lstN s = (sp s).map vH) := nN_yes HN.out hk6
        generalize textL (((sp s).map vH).map hex8) = T at hT hte
        have HT := hide_ hT
        have hcmp := (str_eq T s).trans hte
        clear hT hte ho2
        cases ha : (sp s).all okH
        · rw [ha] at hcmp
          have HQ' := hide_ (HQ.out ha)
          clear ha
          have hcmp2 : (T != s.toList) = true := by rw [bne, hcmp]; rfl
          go_wp2_with fail
          go_at_call 31
          refine Calls.mono HT.out ?_
          rintro e w2 ⟨rfl, hB2⟩
          have HR2 := hide_ (HR.out.trans (hB2.mono HR.out.size))
          clear hB2
          go_wp2_with fail
          go_ret2
          exact ⟨_, by rw [HQ'.out.1]; rfl, by rw [HQ'.out.2]; exact OwnF.nil _ _, HR2.out⟩
        · rw [ha] at hcmp
          have HY' := hide_ (HY.out ha)
          clear ha
          have hcmp2 : (T != s.toList) = false := by rw [bne, hcmp]; rfl
          go_wp2_with fail
          go_at_call 31
          refine Calls.mono HT.out ?_
          rintro e w2 ⟨rfl, hB2⟩
          have HR2 := hide_ (HR.out.trans (hB2.mono HR.out.size))
          have HO2 := hide_ (HOO.out.keep hB2)
          clear hB2
          go_wp2_with fail
          go_ret2
          exact ⟨_, by rw [HY'.out.1]; rfl, by rw [HY'.out.2]; exact HO2.out, HR2.out⟩
  · have HN := hide_ (nN_none hn)
    have hs : s = ⟨#[110, 111, 110, 101]⟩ := bext (by
      unfold isNo at hn
      rw [beq_iff_eq] at hn
      exact hn)
    have HC1 := hide_ (c_piecesNone s (w.alloc (.cells #[] 28)) hn)
    have hT := c_implNText (some ⟨w.heap.size, 0, none⟩) 0 [] (w.alloc (.cells #[] 28)) (.inl rfl) (fun j => by simp) (by simp) (hz.keep ((Below.refl w.heap.size w).alloc (Nat.le_refl _) _))
    have HT : Hid (Calls Tryz.prog 31 #[.slice (some ⟨w.heap.size, 0, none⟩) 0 0] (w.alloc (.cells #[] 28)) fun e w' => e = .returned (.tuple #[.string ⟨#[110, 111, 110, 101]⟩, .bool true]) ∧ Below (w.heap.size + 1) (w.alloc (.cells #[] 28)) w') := by
      refine Calls.mono hT ?_
      rintro e w' ⟨rfl, hB⟩
      exact ⟨rfl, by simpa using hB⟩
    clear hn hv hz hT
    subst hs
    go_enter Tryz.func32, Tryz.ntmps32
    go_wp2_with fail
    go_at_call 49
    refine Calls.mono HC1.out ?_
    rintro e w1 ⟨rfl, rfl⟩
    go_wp2_with fail
    go_loop [4, 13] (fun out i => i = .int .i64 0 ∧ out = .slice (some ⟨w.heap.size, 0, none⟩) 0 0) (fun _ _ => 0)
    case atStart => exact ⟨rfl, rfl⟩
    case round =>
      obtain ⟨rfl, rfl⟩ := hrel
      go_wp2_with fail
      go_at_call 31
      refine Calls.mono HT.out ?_
      rintro e w2 ⟨rfl, hB2⟩
      have HR2 := hide_ (((Below.refl w.heap.size w).alloc (Nat.le_refl _) (.cells #[] 28)).trans (hB2.mono (Nat.le_succ _)))
      have HO2 := hide_ (own_keep (own_new w 28 w.heap.size (Nat.le_refl _)) (by simpa using hB2))
      clear hB2
      go_wp2_with fail
      go_ret2
      exact ⟨_, by rw [HN.out.1]; rfl, by rw [HN.out.2]; exact ⟨_, _, rfl, HO2.out⟩, HR2.out⟩

end Go.Proofs.YtiabbafmjgiobaaGreatDoor

/-
The text of a list of complex numbers in the program.
-/
set_option linter.unusedVariables false
set_option linter.unusedSimpArgs false
namespace Go.Proofs.YtiabbafmjgiobaaGreatDoor
open Fl Go Go.RowKit

/-- the cells behind an address hold complex numbers -/
def Fc (w : World) (A : Option Addr) (xs : List (Nat × Nat)) : Prop :=
  xs = [] ∨ ∃ b off, A = some ⟨b, off, none⟩ ∧ b < w.heap.size ∧ ∀ j, j < xs.length → w.cell? ⟨b, off + j, none⟩ = some (cxV (xs.getD j (0, 0)))
theorem Fc.keep {B : Nat} {w w' : World} {A : Option Addr} {xs : List (Nat × Nat)} (h : Fc w A xs) (hb : Below B w w') (hB : w.heap.size ≤ B) : Fc w' A xs := by
  rcases h with rfl | ⟨b, off, rfl, hbl, hc⟩
  · exact .inl rfl
  · exact .inr ⟨b, off, rfl, Nat.lt_of_lt_of_le hbl hb.size, fun j hj => by rw [hb.cell (p := ⟨b, off + j, none⟩) (by show b < B; omega)]; exact hc j hj⟩
theorem Fc.of_pos {w : World} {A : Option Addr} {xs : List (Nat × Nat)} (h : Fc w A xs) (hp : 0 < xs.length) : ∃ b off, A = some ⟨b, off, none⟩ ∧ b < w.heap.size ∧ ∀ j, j < xs.length → w.cell? ⟨b, off + j, none⟩ = some (cxV (xs.getD j (0, 0))) := by
  rcases h with rfl | h
  · cases hp
  · exact h
theorem own_fc {base n : Nat} {xs : List (Nat × Nat)} {A : Option Addr} {cap : Nat} {w : World} (h : w.ownsRow base 24 1 (.slice A n cap) n (xs.map cxV)) (hn : n = xs.length) : Fc w A xs := by
  subst hn
  rcases h.2 with ⟨hv, hn⟩ | ⟨g, cp, cur, hv, hb, hh, hr⟩
  · exact .inl (List.eq_nil_of_length_eq_zero hn)
  · simp only [Value.slice.injEq] at hv
    obtain ⟨rfl, _, rfl⟩ := hv
    refine .inr ⟨g, 0, rfl, (Array.getElem?_eq_some_iff.1 hh).1, fun j hj => ?_⟩
    rw [Nat.zero_add, h.cellAt j (by omega), List.getElem?_map, List.getElem?_eq_getElem hj]
    simp [List.getD_eq_getElem?_getD, hj]
def AllC (xs : List (Nat × Nat)) : Prop := ∀ j, (xs.getD j (0, 0)).1 < 4294967296 ∧ (xs.getD j (0, 0)).2 < 4294967296
theorem all_vC {s : ByteArray} (hz : ∀ k, k < (sp s).length → ((sp s).getD k default).size = 16) : AllC ((sp s).map vC) := by
  intro j
  by_cases hj : j < (sp s).length
  · have e : ((sp s).map vC).getD j (0, 0) = vC ((sp s).getD j default) := by simp [List.getD_eq_getElem?_getD, hj]
    rw [e]
    have hz1 := vH_lt (half_size (hz j hj)).1
    have hz2 := vH_lt (half_size (hz j hj)).2
    generalize (sp s).getD j default = p at *
    unfold vC
    generalize vH (p1 p) = x1 at *
    generalize vH (p2 p) = x2 at *
    exact ⟨hz1, hz2⟩
  · have e : ((sp s).map vC).getD j (0, 0) = (0, 0) := by simp [List.getD_eq_getElem?_getD, hj]
    rw [e]
    exact ⟨Nat.zero_lt_succ _, Nat.zero_lt_succ _⟩

set_option maxRecDepth 100000 in
set_option maxHeartbeats 1000000 in
theorem c_implCText (A : Option Addr) (c : Nat) (xs : List (Nat × Nat)) (w : World) (hA : Fc w A xs) (ax : AllC xs) (h256 : xs.length ≤ 256) (ht : Tz w) : Calls Tryz.prog 17 #[.slice A xs.length c] w fun e w' => e = .returned (.tuple #[.string ⟨(textL (xs.map hexC)).toArray⟩, .bool true]) ∧ Below w.heap.size w w' := by
  obtain ⟨i0, hi, hz0, hz1, hz2⟩ := info_parts infoSh
  have hds : ∀ j, j < xs.length → (xs.map hexC)[j]? = some (hexC (xs.getD j (0, 0))) := by
    intro j hj
    simp [List.getD_eq_getElem?_getD, hj]
  have hB : ∀ d ∈ xs.map hexC, d.length ≤ 100 := by
    intro d hd
    simp only [List.mem_map] at hd
    obtain ⟨n, hn, rfl⟩ := hd
    rw [hexC_len]; omega
  have HA := hide_ hA
  have AX := hide_ ax
  have HD := hide_ hds
  have HT := hide_ ht
  have HJ := hide_ (c_joined w.heap.size (xs.map hexC) · · · hB (by simp; omega))
  have h256I : ¬ (256 : Int) < xs.length := by omega
  clear hA ax hds hB ht
  go_enter Tryz.func17, Tryz.ntmps17
  go_wp2_with fail
  go_loopw [4, 13] (fun out i wr => ∃ (k : Nat) (A' : Option Addr) (c' : Nat), k ≤ xs.length ∧ i = .int .i64 k ∧ out = .slice A' k c' ∧ wr.ownsRow w.heap.size 9 1 (.slice A' k c') k (((xs.map hexC).take k).map strV) ∧ Below w.heap.size w wr) (fun out i wr => xs.length - (intOf i).toNat)
  case atStart => exact ⟨0, _, _, Nat.zero_le _, rfl, rfl, ⟨rfl, .inr ⟨w.heap.size, 0, #[], rfl, Nat.le_refl _, heap_alloc_new w _, Nat.le_refl _, by unfold maxLen; omega, rfl, rfl⟩⟩, (Below.refl _ _).alloc (Nat.le_refl _) _⟩
  case round =>
    obtain ⟨k, A', c', hk, rfl, rfl, ho, R⟩ := hrel
    have HO := hide_ ho
    have HR := hide_ R
    clear ho R
    by_cases hlt : k < xs.length
    · obtain ⟨b, off, rfl, hb, hc⟩ := HA.out.of_pos (by omega)
      have hcell := (HR.out.cell (p := ⟨b, off + k, none⟩) hb).trans (hc k hlt)
      have TD := hide_ (HD.out k hlt)
      have hx := AX.out k
      generalize hxk : xs.getD k (0, 0) = xk at hcell TD hx
      clear hc hxk
      obtain ⟨x1, x2⟩ := xk
      obtain ⟨hx1, hx2⟩ := hx
      simp only at hx1 hx2
      have hcell' : wr.cell? ⟨b, off + k, none⟩ = some (.complex .f32 x1 x2) := hcell
      have D1 := hide_ (fun W (h : Tz W) => c_hexOf x1 hx1 W h)
      have D2 := hide_ (fun W (h : Tz W) => c_hexOf x2 hx2 W h)
      have l1 : (hex8 x1).length = 8 := hxL_len _ _
      have l2 : (hex8 x2).length = 8 := hxL_len _ _
      have TD' := hide_ (show (xs.map hexC)[k]? = some (hex8 x1 ++ hex8 x2) from TD.out)
      clear hcell TD hx1 hx2
      generalize hex8 x1 = T1 at *
      generalize hex8 x2 = T2 at *
      have hno : ¬ 9223372036854775807 < T1.length + T2.length := by omega
      have HCat := hide_ (cat2' T1 T2)
      clear l1 l2
      go_wp2_with fail
      go_at_call 47
      refine (D1.out _ (HT.out.keep HR.out)).mono ?_
      rintro e w1 ⟨rfl, hB1⟩
      have HR1 := hide_ (HR.out.trans (hB1.mono HR.out.size))
      have HO1 := hide_ (own_belowH HO.out hB1)
      clear hB1 hcell'
      go_wp2_with fail
      go_at_call 47
      refine (D2.out _ (HT.out.keep HR1.out)).mono ?_
      rintro e w2 ⟨rfl, hB2⟩
      have HO2 := hide_ (own_belowH HO1.out hB2)
      have HR2 := hide_ (HR1.out.trans (hB2.mono HR1.out.size))
      have hsz2 : w.heap.size ≤ w2.heap.size := HR2.out.size
      have hcat := HCat.out
      clear hB2 HO HO1 HR1
      go_wp2_with (at_builtin; refine wpList_append_own_at _ rfl (.tmp 17) (.tmp 25) 69 rfl w.heap.size 9 i0 (.string ByteArray.empty) 1 16 Tryz.underlying69 hi hz0 hz1 hz2 rfl (by decide) (.slice A' k c') k _ rfl (World.ownsRow.alloc HO2.out _) ⟨w2.heap.size, 0, none⟩ 1 1 [strV (T1 ++ T2)] rfl rfl (news_at _ _ _ rfl) (fun u hu => by simp at hu; subst hu; rfl) (by unfold maxLen; omega) (by omega) (by simp; omega) ?_; intro v' w3 hown hgrow _ _; rw [own_strs_H TD'.out] at hown; obtain ⟨A3, c3, rfl⟩ := form_H hown; have HO3 := hide_ hown; have HR3 := hide_ ((HR2.out.alloc hsz2 (Obj.cells #[strV (T1 ++ T2)] 9)).grown hgrow (by simp; omega) (fun q hq => (World.ownsRow.lt HO2.out q hq).1)); clear hown hgrow)
      go_roundw
      case rel => exact ⟨k + 1, A3, c3, by omega, by go_num, rfl, HO3.out, HR3.out⟩
      case measure => simp [intOf]; omega
    · obtain rfl : k = xs.length := by omega
      have ho : wr.ownsRow w.heap.size 9 1 (.slice A' xs.length c') (xs.map hexC).length ((xs.map hexC).map strV) := by
        have := HO.out
        rw [List.take_of_length_le (by simp)] at this
        rw [List.length_map]
        exact this
      have JJ := hide_ (HJ.out _ _ ho)
      clear ho
      go_wp2_with fail
      go_at_call 48
      refine Calls.mono JJ.out ?_
      rintro e w2 ⟨rfl, hB2⟩
      have HR2 := hide_ (HR.out.trans (hB2.mono HR.out.size))
      clear hB2
      go_wp2_with fail
      go_ret2
      exact ⟨rfl, HR2.out⟩

end Go.Proofs.YtiabbafmjgiobaaGreatDoor
