/-
  The whole circle of roots, the points, the sums of fft.DFT, over words.
-/
import Derived.Test.YgctacCx1
import Derived.Laws.Cover2
namespace Go.Proofs.Ygctac.Cx
open Fp (fv rnd Near)
set_option linter.unusedVariables false

/-- '-x': the sign bit turned. -/
def flip64 (a : Nat) : Nat := a ^^^ 9223372036854775808

theorem flip_mod (x : Nat) : flip64 x % 2 ^ 63 = x % 2 ^ 63 := by
  unfold flip64
  rw [show (9223372036854775808 : Nat) = 2 ^ 63 by decide, Nat.xor_mod_two_pow, Nat.mod_self, Nat.xor_zero]
theorem fv_natAbs (x : Nat) : (fv x).natAbs = Fp.rv (x % 2 ^ 63) := by
  unfold Fp.fv
  split <;> simp
theorem flip_bd {M x : Nat} (h : Bd M x) : Bd M (flip64 x) := by
  obtain ⟨⟨h1, h2⟩, h3⟩ := h
  refine ⟨⟨?_, ?_⟩, ?_⟩
  · exact Nat.xor_lt_two_pow h1 (by decide)
  · rw [flip_mod]; exact h2
  · rw [fv_natAbs, flip_mod, ← fv_natAbs]; exact h3
def cneg (z : Nat × Nat) : Nat × Nat := (flip64 z.1, flip64 z.2)
theorem cneg_cb {M : Nat} {z : Nat × Nat} (h : CB M z) : CB M (cneg z) := ⟨flip_bd h.1, flip_bd h.2⟩

/-- fft.W at 0 ≤ m < 2h, or at h = 0, m = 0. -/
def rootF (h : Nat) (T : Nat → Nat × Nat) (m : Nat) : Nat × Nat := if h = 0 then one else if m < h then T m else cneg (T (m - h))
theorem rootF_cb {h M : Nat} {T : Nat → Nat × Nat} (hM : 1 ≤ M) (hT : ∀ j, CB M (T j)) (m : Nat) : CB M (rootF h T m) := by
  unfold rootF
  split
  · exact one_cb.mono hM
  · split
    · exact hT _
    · exact cneg_cb (hT _)

/-- i*j mod n, as it is reckoned. -/
def stepA (n j : Nat) : Nat → Nat
  | 0 => 0
  | i + 1 => (stepA n j i + j) &&& (n - 1)
theorem stepA_lt {n j : Nat} (hn : 0 < n) (i : Nat) : stepA n j i < n := by
  cases i with
  | zero => exact hn
  | succ i =>
    have : (stepA n j i + j) &&& (n - 1) ≤ n - 1 := Nat.and_le_right
    show (stepA n j i + j) &&& (n - 1) < n
    omega
/-- The sum of the first i terms of entry j. -/
def dftS (n j : Nat) (X R : Nat → Nat × Nat) : Nat → Nat × Nat
  | 0 => (0, 0)
  | i + 1 => cadd (dftS n j X R i) (cmul (X i) (R (stepA n j i)))
theorem term_ok {X R : Nat → Nat × Nat} (hX : ∀ i, CB 256 (X i)) (hR : ∀ i, CB 1024 (R i)) (i a : Nat) : CB 524288 (cmul (X i) (R a)) := (cmul_ok (hX i) (hR a) rfl (by decide)).1
theorem dftS_cb {n j : Nat} {X R : Nat → Nat × Nat} (hX : ∀ i, CB 256 (X i)) (hR : ∀ i, CB 1024 (R i)) : ∀ i, i ≤ 2048 → CB (524288 * i) (dftS n j X R i) := by
  intro i
  induction i with
  | zero => intro _; exact zero_cb
  | succ i ih =>
    intro hi
    exact (cadd_ok (ih (by omega)) (term_ok hX hR i _) (by omega) (by omega)).1

/-- A digit as a point. -/
def pointW (z : Int) : Nat × Nat := (floatOfInt .f64 z, 0)
theorem points_all : (List.range 256).all (fun i => bdB 256 (floatOfInt .f64 (i : Int))) = true := by decide +kernel
theorem point_cb {z : Int} (h0 : 0 ≤ z) (h1 : z < 256) : CB 256 (pointW z) := by
  obtain ⟨i, rfl⟩ := Int.eq_ofNat_of_zero_le h0
  have := List.all_eq_true.1 points_all i (List.mem_range.2 (by omega))
  exact ⟨bd_of this, zero_bd.mono (by decide)⟩
end Go.Proofs.Ygctac.Cx
