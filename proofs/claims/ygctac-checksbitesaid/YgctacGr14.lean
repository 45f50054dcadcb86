/-
  law.bitePartials.
-/
import Derived.Test.YgctacGr13
namespace Go.Proofs.Ygctac
open Go.RowKit
open Fp (fv)
set_option linter.unusedVariables false
set_option linter.unusedSimpArgs false

theorem siz_sizeA (f : Nat → Nat) : ∀ n, sizeA f n = Fp.siz (vals f 0 n) * 2 ^ 1074
  | 0 => (Int.zero_mul _).symm
  | n + 1 => by
    rw [sizeA, vals_last, Fp.siz_append, siz_sizeA f n, Int.add_mul, Nat.zero_add]
    simp only [Fp.siz, Int.add_zero]
theorem room2_adm : 2 * (admU : Int) * 2 ^ 1074 = room2 := by
  rw [admU_cast, room2, show (2 : Int) * 2 ^ admE = 2 ^ 1 * 2 ^ admE from rfl, ← pp_add, ← pp_add]
  rfl
/-- The state of a real run passes. -/
theorem chkP_run {B N : Nat} {w : World} {v : Value} {n : Nat} {f : Nat → Nat} (h : PS B N w v n f) (hN : N ≤ 1024) : chkP f n N = true ∧ apartN f (-5000) 0 n = true := by
  have ha : apartN f (-5000) 0 n = true := apart_of (fun i hi => (h.fin i hi).1) h.fin (fun i hi => h.parts.nz _ ((mem_vals f n 0).2 ⟨i, hi, by rw [Nat.zero_add]⟩)) h.parts.sep
  refine ⟨?_, ha⟩
  have hs : sizeA f n ≤ N * room2 := by
    rw [siz_sizeA, ← room2_adm, ← Int.mul_assoc]
    refine Int.mul_le_mul_of_nonneg_right ?_ (Int.le_of_lt (pp 1074))
    exact h.parts.size
  unfold chkP
  rw [ha, decide_eq_true hN, decide_eq_true hs]
  rfl
theorem chkP_bad {f : Nat → Nat} {n N : Nat} (h : apartN f (-5000) 0 n = false) : chkP f n N = false := by
  unfold chkP
  rw [h]
  simp
theorem sizeA_nonneg (f : Nat → Nat) : ∀ n, 0 ≤ sizeA f n
  | 0 => Int.le_refl _
  | n + 1 => by
    have := sizeA_nonneg f n
    have h := Int.mul_nonneg (Int.natCast_nonneg (fv (f n)).natAbs) (Int.le_of_lt (pp 1074))
    rw [sizeA]
    omega
/-- No terms, but one summand: too large. -/
theorem chkP_none {f : Nat → Nat} {n : Nat} (hn : 0 < n) (hf : ∀ i, i < n → f i < 18446744073709551616) : chkP f n 0 = false := by
  cases ha : apartN f (-5000) 0 n with
  | false => exact chkP_bad ha
  | true =>
    obtain ⟨m, rfl⟩ : ∃ m, n = m + 1 := ⟨n - 1, by omega⟩
    have h1 := ((apartN_iff f (m + 1) (-5000) 0).1 ha).1 m (by omega)
    rw [Nat.zero_add] at h1
    have h2 := (fin_of_one (hf m (by omega)) h1).2
    have h3 := sizeA_nonneg f m
    have h4 : 0 < ((fv (f m)).natAbs : Int) * 2 ^ 1074 := Int.mul_pos (by omega) (pp 1074)
    unfold chkP
    rw [decide_eq_false (p := sizeA f (m + 1) ≤ ((0 : Nat) : Int) * room2) (by rw [sizeA, Int.natCast_zero, Int.zero_mul]; omega)]
    simp
def topE : Nat := 52 + 2042
theorem rv_pow {r : Nat} (E : Nat) (h : r = E * 2 ^ 52 + 2 ^ 52) : (Fp.rv r : Int) = 2 ^ (52 + E) := by
  rw [h, Fp.rv_rung E (2 ^ 52) (by decide) (.inr (Nat.le_refl _)), Int.natCast_mul, Fp.natp2_cast, Fp.natp2_cast, ← pp_add]
theorem p2_abs (E : Nat) : (((2 : Int) ^ E).natAbs : Int) = 2 ^ E := Int.natAbs_of_nonneg (Int.le_of_lt (pp E))
theorem fv_top : fv 9200854038717923328 = 2 ^ topE := by
  unfold fv
  rw [if_pos (by decide), rv_pow 2042 (by decide), topE]
/-- One summand of 2^1020: too large. -/
theorem chkP_top {f : Nat → Nat} {n N : Nat} (hn : 0 < n) (hN : N ≤ 1024) (ht : f (n - 1) = 9200854038717923328) : chkP f n N = false := by
  obtain ⟨m, rfl⟩ : ∃ m, n = m + 1 := ⟨n - 1, by omega⟩
  rw [Nat.add_sub_cancel] at ht
  have h3 := sizeA_nonneg f m
  have h4 : ((fv (f m)).natAbs : Int) * 2 ^ 1074 = 2 ^ (19 + 3149) := by
    rw [ht, fv_top, p2_abs, ← pp_add, show topE + 1074 = 19 + 3149 from rfl]
  have h5 : (N : Int) * room2 < 2 ^ (19 + 3149) := by
    rw [pp_add, ← room2, show (2 : Int) ^ 19 = 524288 from rfl]
    have := room2_pos
    have h6 : (N : Int) * room2 ≤ 1024 * room2 := Int.mul_le_mul_of_nonneg_right (by omega) (Int.le_of_lt this)
    omega
  unfold chkP
  rw [decide_eq_false (p := sizeA f (m + 1) ≤ (N : Int) * room2) (by rw [sizeA, h4]; omega)]
  simp
theorem sCl_inf : sCl 9218868437227405312 ≠ 1 := by decide
theorem sCl_zero : sCl 0 ≠ 1 := by decide
theorem cells_ps {w : World} {b : Nat} {x y : Value} (h0 : w.cell? ⟨b, 0, none⟩ = some x) (h1 : w.cell? ⟨b, 1, none⟩ = some y) : (loadVar 126 ⟨b, 0, none⟩).run Tacg.prog w = .ok (.agg #[x, y]) w := by
  have hr : w.rangeAt b 0 [x, y] := by
    intro j v hv
    match j, hv with
    | 0, hv => simpa [h0] using hv
    | 1, hv => simpa [h1] using hv
    | j + 2, hv => simp at hv
  exact run_loadVar_mid (P := Tacg.prog) w b 0 126 [x, y] _ hr Tacg.underlying126 rfl (by kernel_rfl)
end Go.Proofs.Ygctac
