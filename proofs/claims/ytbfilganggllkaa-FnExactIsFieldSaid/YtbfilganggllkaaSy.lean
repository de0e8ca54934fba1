/-
Fields compared: the contracts in both packages.
-/
import Derived.Test.YtbfilganggllkaaSx
import Derived.Test.YtbfilganggllkaaSv
set_option linter.unusedVariables false
set_option linter.unusedSimpArgs false
namespace Go.Proofs.Ytbfilganggllkaa
open Fl Go.RowKit

def fieldV (xs xs' ys ys' zs zs' : List Nat) : Bool := sameL xs xs' && (sameL ys ys' && sameL zs zs')

theorem c_l02Same (p q : Nat) (A A' B B' C C' : Option Addr) (a a' b b' c c' : Nat) (xs xs' ys ys' zs zs' : List Nat) (w : World)
    (h0 : w.cell? ⟨p, 0, none⟩ = some (.slice A xs.length a)) (h1 : w.cell? ⟨p, 1, none⟩ = some (.slice B ys.length b)) (h2 : w.cell? ⟨p, 2, none⟩ = some (.slice C zs.length c))
    (g0 : w.cell? ⟨q, 0, none⟩ = some (.slice A' xs'.length a')) (g1 : w.cell? ⟨q, 1, none⟩ = some (.slice B' ys'.length b')) (g2 : w.cell? ⟨q, 2, none⟩ = some (.slice C' zs'.length c'))
    (H1 : ∀ n, Calls Try.prog 43 #[.slice A xs.length a, .slice A' xs'.length a'] (w.drewN n) fun e w' => e = .returned (.bool (sameL xs xs')) ∧ ∃ m, w' = (w.drewN n).drewN m)
    (H2 : ∀ n, Calls Try.prog 43 #[.slice B ys.length b, .slice B' ys'.length b'] (w.drewN n) fun e w' => e = .returned (.bool (sameL ys ys')) ∧ ∃ m, w' = (w.drewN n).drewN m)
    (H3 : ∀ n, Calls Try.prog 43 #[.slice C zs.length c, .slice C' zs'.length c'] (w.drewN n) fun e w' => e = .returned (.bool (sameL zs zs')) ∧ ∃ m, w' = (w.drewN n).drewN m) :
    Calls Try.prog 37 #[.pointer (some ⟨p, 0, none⟩), .pointer (some ⟨q, 0, none⟩)] w (RB (fieldV xs xs' ys ys' zs zs') w) := by
  unfold fieldV
  cases e1 : sameL xs xs'
  · rw [e1] at H1
    have K1 : Hid _ := H1
    clear H1 H2 H3 e1
    go_enter Try.func37, Try.ntmps37
    go_wp2_with fail
    go_quiet ((go_at_call 43; exact Calls.quiet_of (K1.out _)))
    go_wp2_with fail
    go_ret
    exact ⟨rfl, _, rfl⟩
  · rw [e1] at H1
    have K1 : Hid _ := H1
    clear H1 e1
    cases e2 : sameL ys ys'
    · rw [e2] at H2
      have K2 : Hid _ := H2
      clear H2 H3 e2
      go_enter Try.func37, Try.ntmps37
      go_wp2_with fail
      go_quiet ((go_at_call 43; first | (with_reducible exact Calls.quiet_of (K1.out _)) | (with_reducible exact Calls.quiet_of (K2.out _))))
      go_wp2_with fail
      go_ret
      exact ⟨rfl, _, rfl⟩
    · rw [e2] at H2
      have K2 : Hid _ := H2
      have K3 : Hid _ := H3
      clear H2 H3 e2
      go_enter Try.func37, Try.ntmps37
      go_wp2_with fail
      go_quiet ((go_at_call 43; first | (with_reducible exact Calls.quiet_of (K1.out _)) | (with_reducible exact Calls.quiet_of (K2.out _)) | (with_reducible exact Calls.quiet_of (K3.out _))))
      go_wp2_with fail
      go_ret
      exact ⟨rfl, _, rfl⟩

theorem c_specSameField (A A' B B' C C' : Option Addr) (a a' b b' c c' : Nat) (xs xs' ys ys' zs zs' : List Nat) (w : World) (hA : Fl32 w A xs) (hA' : Fl32 w A' xs') (hB : Fl32 w B ys) (hB' : Fl32 w B' ys') (hC : Fl32 w C zs) (hC' : Fl32 w C' zs') (ax : All32 xs) (ax' : All32 xs') (ay : All32 ys) (ay' : All32 ys') (az : All32 zs) (az' : All32 zs') (hx : xs.length ≤ 1048576) (hx' : xs'.length ≤ 1048576) (hy : ys.length ≤ 1048576) (hy' : ys'.length ≤ 1048576) (hz : zs.length ≤ 1048576) (hz' : zs'.length ≤ 1048576) :
    Calls Try.prog 15 #[.agg #[.slice A xs.length a, .slice B ys.length b, .slice C zs.length c], .agg #[.slice A' xs'.length a', .slice B' ys'.length b', .slice C' zs'.length c']] w fun e w' => e = .returned (.bool (fieldV xs xs' ys ys' zs zs')) ∧ Below w.heap.size w w' := by
  have hB0 : Below w.heap.size w ((w.alloc (Obj.cells #[.slice A xs.length a, .slice B ys.length b, .slice C zs.length c] 35)).alloc (Obj.cells #[.slice A' xs'.length a', .slice B' ys'.length b', .slice C' zs'.length c'] 35)) := ((Below.refl _ _).alloc (Nat.le_refl _) _).alloc (by simp) _
  have HW : Hid _ := hB0
  have H := c_l02Same w.heap.size (w.heap.size + 1) A A' B B' C C' a a' b b' c c' xs xs' ys ys' zs zs' ((w.alloc (Obj.cells #[.slice A xs.length a, .slice B ys.length b, .slice C zs.length c] 35)).alloc (Obj.cells #[.slice A' xs'.length a', .slice B' ys'.length b', .slice C' zs'.length c'] 35)) (by simp [go_sem]) (by simp [go_sem]) (by simp [go_sem]) (by simp [go_sem]) (by simp [go_sem]) (by simp [go_sem])
    (fun n => c_l01SameAll A A' a a' xs xs' _ (Fl32.drewN (hA.keep hB0 (Nat.le_refl _)) n) (Fl32.drewN (hA'.keep hB0 (Nat.le_refl _)) n) ax ax' hx hx')
    (fun n => c_l01SameAll B B' b b' ys ys' _ (Fl32.drewN (hB.keep hB0 (Nat.le_refl _)) n) (Fl32.drewN (hB'.keep hB0 (Nat.le_refl _)) n) ay ay' hy hy')
    (fun n => c_l01SameAll C C' c c' zs zs' _ (Fl32.drewN (hC.keep hB0 (Nat.le_refl _)) n) (Fl32.drewN (hC'.keep hB0 (Nat.le_refl _)) n) az az' hz hz')
  have HH : Hid _ := H
  clear H hB0
  go_enter Try.func15, Try.ntmps15
  go_wp2_with fail
  go_at_call 37
  refine Calls.mono HH.out ?_
  rintro e w' ⟨rfl, m, rfl⟩
  go_wp2_with fail
  go_ret
  exact ⟨rfl, below_n HW.out _⟩
theorem c_implSameField (A A' B B' C C' : Option Addr) (a a' b b' c c' : Nat) (xs xs' ys ys' zs zs' : List Nat) (w : World) (hA : Fl32 w A xs) (hA' : Fl32 w A' xs') (hB : Fl32 w B ys) (hB' : Fl32 w B' ys') (hC : Fl32 w C zs) (hC' : Fl32 w C' zs') (ax : All32 xs) (ax' : All32 xs') (ay : All32 ys) (ay' : All32 ys') (az : All32 zs) (az' : All32 zs') (hx : xs.length ≤ 1048576) (hx' : xs'.length ≤ 1048576) (hy : ys.length ≤ 1048576) (hy' : ys'.length ≤ 1048576) (hz : zs.length ≤ 1048576) (hz' : zs'.length ≤ 1048576) :
    Calls Try.prog 17 #[.agg #[.slice A xs.length a, .slice B ys.length b, .slice C zs.length c], .agg #[.slice A' xs'.length a', .slice B' ys'.length b', .slice C' zs'.length c']] w fun e w' => e = .returned (.bool (fieldV xs xs' ys ys' zs zs')) ∧ Below w.heap.size w w' := by
  have hB0 : Below w.heap.size w ((w.alloc (Obj.cells #[.slice A xs.length a, .slice B ys.length b, .slice C zs.length c] 35)).alloc (Obj.cells #[.slice A' xs'.length a', .slice B' ys'.length b', .slice C' zs'.length c'] 35)) := ((Below.refl _ _).alloc (Nat.le_refl _) _).alloc (by simp) _
  have HW : Hid _ := hB0
  have H1 := fun n => c_sameNumbers A A' a a' xs xs' _ (Fl32.drewN (hA.keep hB0 (Nat.le_refl _)) n) (Fl32.drewN (hA'.keep hB0 (Nat.le_refl _)) n) ax ax' hx hx'
  have H2 := fun n => c_sameNumbers B B' b b' ys ys' _ (Fl32.drewN (hB.keep hB0 (Nat.le_refl _)) n) (Fl32.drewN (hB'.keep hB0 (Nat.le_refl _)) n) ay ay' hy hy'
  have H3 := fun n => c_sameNumbers C C' c c' zs zs' _ (Fl32.drewN (hC.keep hB0 (Nat.le_refl _)) n) (Fl32.drewN (hC'.keep hB0 (Nat.le_refl _)) n) az az' hz hz'
  clear hB0
  unfold fieldV
  cases e1 : sameL xs xs'
  · rw [e1] at H1
    have K1 : Hid _ := H1
    clear H1 H2 H3 e1
    go_enter Try.func17, Try.ntmps17
    go_wp2_with fail
    go_at_call 38
    refine (K1.out 0).mono ?_
    rintro e w' ⟨rfl, m, rfl⟩
    go_wp2_with fail
    go_ret
    exact ⟨rfl, below_n HW.out _⟩
  · rw [e1] at H1
    have K1 : Hid _ := H1
    clear H1 e1
    cases e2 : sameL ys ys'
    · rw [e2] at H2
      have K2 : Hid _ := H2
      clear H2 H3 e2
      go_enter Try.func17, Try.ntmps17
      go_wp2_with fail
      go_at_call 38
      refine (K1.out 0).mono ?_
      rintro e w' ⟨rfl, m, rfl⟩
      go_wp2_with fail
      go_at_call 38
      refine (K2.out _).mono ?_
      rintro e w' ⟨rfl, m', rfl⟩
      go_wp2_with fail
      go_ret
      exact ⟨rfl, below_n HW.out _⟩
    · rw [e2] at H2
      have K2 : Hid _ := H2
      have K3 : Hid _ := H3
      clear H2 H3 e2
      go_enter Try.func17, Try.ntmps17
      go_wp2_with fail
      go_at_call 38
      refine (K1.out 0).mono ?_
      rintro e w' ⟨rfl, m, rfl⟩
      go_wp2_with fail
      go_at_call 38
      refine (K2.out _).mono ?_
      rintro e w' ⟨rfl, m', rfl⟩
      go_wp2_with fail
      go_at_call 38
      refine (K3.out _).mono ?_
      rintro e w' ⟨rfl, m'', rfl⟩
      go_wp2_with fail
      go_ret
      exact ⟨rfl, below_n HW.out _⟩

end Go.Proofs.Ytbfilganggllkaa
