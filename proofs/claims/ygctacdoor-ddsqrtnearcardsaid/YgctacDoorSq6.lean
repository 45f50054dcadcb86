/-
  dd.Sqrt of what twofold hands on: the three cases.
-/
import Derived.Test.YgctacDoorSq5
namespace Go.Proofs.YgctacDoor
open Go.RowKit
open Fp (fv rnd)
set_option linter.unusedVariables false
set_option linter.unusedSimpArgs false

theorem order0 {y : Nat} (hy : Fp.Fin y) : FloatKind.f64.format.order y 0 = some (compare (fv y) 0) := by
  have f0 : Fp.Fin 0 := by unfold Fp.Fin; decide
  have v0 : fv 0 = 0 := by unfold Fp.fv Fp.rv; simp
  have : FloatKind.f64.format.order y 0 = some (compare (fv y) (fv 0)) := Fp.order_val hy f0
  rw [this, v0]
theorem order_lt {y : Nat} (hy : Fp.Fin y) (h : fv y < 0) : (FloatKind.f64.format.order y 0 == some .lt) = true := by
  rw [order0 hy, Fp.cmp_int, if_pos h]; rfl
theorem order_nlt {y : Nat} (hy : Fp.Fin y) (h : 0 ≤ fv y) : (FloatKind.f64.format.order y 0 == some .lt) = false := by
  rw [order0 hy, Fp.cmp_int, if_neg (by omega)]
  split <;> rfl
theorem order_ge {y : Nat} (hy : Fp.Fin y) (h : 0 ≤ fv y) : (FloatKind.f64.format.order y 0 == some .gt || FloatKind.f64.format.order y 0 == some .eq) = true := by
  rw [order0 hy, Fp.cmp_int, if_neg (by omega)]
  split <;> rfl

theorem fin_cl {p : Nat} (hf : Fp.Fin p) (h : fv p ≠ 0) : sCl p = 1 := by
  have h1 := (fin_iff hf.1).2 hf
  have h2 : sCl p ≠ 0 := fun c => h ((zero_iff hf.1 hf).1 c)
  unfold sCl at *
  split at h1
  · split at h1 <;> omega
  · split at h1
    · omega
    · split at h1
      · omega
      · omega

theorem mn_bounds (p : Nat) (hf : Fp.Fin p) (h : fv p ≠ 0) : ∃ man : Nat, sMn p = man ∧ 1 ≤ man ∧ man < 9007199254740992 ∧ -1074 ≤ sEx p ∧ sEx p ≤ 1024 := by
  have hm := sM_lt p
  have hF := sF_lt p
  have hc := fin_cl hf h
  unfold sCl at hc
  unfold sMn sEx
  by_cases c1 : sF p = 2047
  · rw [if_pos c1] at hc
    split at hc <;> omega
  · rw [if_neg c1] at hc
    rw [if_neg c1, if_neg c1]
    by_cases c2 : sF p ≠ 0
    · rw [if_pos c2, if_pos c2]
      exact ⟨sM p + 4503599627370496, by omega, by omega, by omega, by omega, by omega⟩
    · rw [if_neg c2] at hc
      rw [if_neg c2, if_neg c2]
      by_cases c3 : sM p = 0
      · rw [if_pos c3] at hc
        cases hc
      · rw [if_neg c3]
        exact ⟨sM p, rfl, by omega, by omega, by omega, by omega⟩

theorem three_val (e : Int) (h0 : -200 ≤ e) (h1 : e ≤ 200) : Fp.Fin (threeP e).toNat ∧ fv (threeP e).toNat = 3 * 2 ^ (e + 1074).toNat := by
  obtain ⟨n, hn⟩ := Int.eq_ofNat_of_zero_le (show 0 ≤ e + 1024 by omega)
  have ep : (threeP e).toNat = n * 4503599627370496 + 2251799813685248 := by
    unfold threeP; rw [hn]; omega
  rw [ep]
  have hn1 : n ≤ 1224 := by omega
  have hn2 : 824 ≤ n := by omega
  have hm : (n * 4503599627370496 + 2251799813685248) % 2 ^ 63 = n * 4503599627370496 + 2251799813685248 := Nat.mod_eq_of_lt (by omega)
  constructor
  · unfold Fp.Fin
    rw [hm]
    omega
  · unfold Fp.fv
    rw [if_pos (by omega), hm]
    unfold Fp.rv
    rw [if_neg (by omega)]
    have e1 : (n * 4503599627370496 + 2251799813685248) % 2 ^ 52 = 2 ^ 51 := by omega
    have e2 : (n * 4503599627370496 + 2251799813685248) / 2 ^ 52 - 1 = n - 1 := by omega
    rw [e1, e2]
    have e3 : (e + 1074).toNat = 51 + (n - 1) := by omega
    rw [e3, Int.natCast_mul, Fp.natp2_cast, Int.pow_add]
    generalize (2 : Int) ^ (n - 1) = A
    have : (((2 ^ 52 + 2 ^ 51 : Nat)) : Int) = 3 * 2 ^ 51 := by decide
    rw [this, Int.mul_assoc]

theorem zz (m : Nat) : (2 : Int) ^ m * 2 ^ m = 2 ^ (2 * m) := by rw [← Int.pow_add]; congr 1; omega

/-- The range of X = x * 2^1074 against Z = 2^m. -/
theorem root_range {x : Nat} {man L : Nat} {ex : Int} (he : -1074 ≤ ex) (hv : fv x = (man : Int) * 2 ^ (ex + 1074).toNat) (l1 : 2 ^ L ≤ man) (l2 : man < 2 ^ (L + 1)) (hb0 : -200 ≤ ex + L) {m : Nat} (hm : (m : Int) = (ex + L) / 2 + 1073) :
    4 * ((2 : Int) ^ m * 2 ^ m) ≤ fv x * KK ∧ fv x * KK < 16 * ((2 : Int) ^ m * 2 ^ m) := by
  obtain ⟨E, hE⟩ : ∃ E : Nat, (ex + 1074).toNat = E := ⟨_, rfl⟩
  rw [hE] at hv
  obtain ⟨G, hG⟩ : ∃ G, G = E + kE := ⟨_, rfl⟩
  have ev : fv x * KK = ((man * 2 ^ G : Nat) : Int) := by
    rw [hv, KK_kE, Int.mul_assoc, ← Int.pow_add, ← hG, Int.natCast_mul, Fp.natp2_cast]
  have a1 : 2 ^ L * 2 ^ G ≤ man * 2 ^ G := Nat.mul_le_mul_right _ l1
  have a2 : man * 2 ^ G < 2 ^ (L + 1) * 2 ^ G := Nat.mul_lt_mul_of_pos_right l2 (Nat.two_pow_pos _)
  rw [p2_mul] at a1 a2
  have hkE : kE = 1074 := rfl
  have b1 : (2 : Nat) ^ (2 * m + 2) ≤ 2 ^ (L + G) := Nat.pow_le_pow_right (by decide) (by omega)
  have b2 : (2 : Nat) ^ (L + 1 + G) ≤ 2 ^ (2 * m + 4) := Nat.pow_le_pow_right (by decide) (by omega)
  have c1 : (2 : Nat) ^ (2 * m + 2) = 2 ^ (2 * m) * 4 := by rw [Nat.pow_add]
  have c2 : (2 : Nat) ^ (2 * m + 4) = 2 ^ (2 * m) * 16 := by rw [Nat.pow_add]
  rw [zz, ev, ← Fp.natp2_cast]
  generalize man * 2 ^ G = A at *
  generalize 2 ^ (2 * m) = B at *
  omega

theorem log_range {x : Nat} {man L : Nat} {ex : Int} (he : -1074 ≤ ex) (hv : fv x = (man : Int) * 2 ^ (ex + 1074).toNat) (l1 : 2 ^ L ≤ man) (l2 : man < 2 ^ (L + 1)) (h1 : loB ≤ (fv x).natAbs) (h2 : (fv x).natAbs ≤ hiB) :
    -200 ≤ ex + L ∧ ex + L ≤ 200 := by
  obtain ⟨E, hE⟩ : ∃ E : Nat, (ex + 1074).toNat = E := ⟨_, rfl⟩
  rw [hE] at hv
  have ev : (fv x).natAbs = man * 2 ^ E := by rw [hv, Fp.natAbs_mul_p2, Int.natAbs_natCast]
  rw [ev] at h1 h2
  have a1 : 2 ^ L * 2 ^ E ≤ man * 2 ^ E := Nat.mul_le_mul_right _ l1
  have a2 : man * 2 ^ E < 2 ^ (L + 1) * 2 ^ E := Nat.mul_lt_mul_of_pos_right l2 (Nat.two_pow_pos _)
  rw [p2_mul] at a1 a2
  have b1 : 2 ^ loE < 2 ^ (L + 1 + E) := Nat.lt_of_le_of_lt h1 a2
  have b2 : 2 ^ (L + E) ≤ 2 ^ hiE := Nat.le_trans a1 h2
  have c1 := (Nat.pow_lt_pow_iff_right (by decide : 1 < 2)).1 b1
  have c2 := (Nat.pow_le_pow_iff_right (by decide : 1 < 2)).1 b2
  unfold loE at c1
  unfold hiE at c2
  omega

theorem sign_pos {p : Nat} (hf : Fp.Fin p) (h : 0 < fv p) : sNg p = false := by
  have e := fv_split hf.1 hf
  have a := fv_abs hf.1 hf
  cases c : sNg p with
  | false => rfl
  | true =>
    rw [c, if_pos rfl, ← a] at e
    omega
theorem sign_neg {p : Nat} (hf : Fp.Fin p) (h : fv p < 0) : sNg p = true := by
  have e := fv_split hf.1 hf
  have a := fv_abs hf.1 hf
  cases c : sNg p with
  | true => rfl
  | false =>
    rw [c, if_neg (by decide), ← a] at e
    omega

theorem sqrt_good {xh xl : Nat} (hx : Good xh xl) (hpos : 0 < fv xh) :
    ∃ zh zl, (∀ w : World, w.cell? ⟨1, 0, none⟩ = some (.int .u8 0) → Calls Tacg.prog 5 #[.agg #[.float .f64 xh, .float .f64 xl]] w fun r w' => r = .returned (.agg #[.float .f64 zh, .float .f64 zl]) ∧ Below w.heap.size w w') ∧
      Fp.Fin zh ∧ Fp.Fin zl ∧ fv zh = rnd 0 (fv zh + fv zl) ∧ (fv zh + fv zl).natAbs ≤ cap ∧ 0 ≤ fv zh ∧
      2 ^ 100 * ((fv zh + fv zl) * (fv zh + fv zl) - (fv xh + fv xl) * KK).natAbs ≤ ((fv xh + fv xl) * KK).natAbs := by
  have hne : fv xh ≠ 0 := by omega
  obtain ⟨man, e1, m1, m2, x1, x2⟩ := mn_bounds xh hx.fh hne
  have hn := sign_pos hx.fh hpos
  have hv := fv_split hx.fh.1 hx.fh
  rw [hn, if_neg (by decide), e1] at hv
  obtain ⟨l1, l2⟩ := Fp.log2_bounds (show man ≠ 0 by omega)
  obtain ⟨b0, b1⟩ := log_range x1 hv l1 l2 (hx.least.resolve_left hne) hx.most
  obtain ⟨m, hm⟩ := Int.eq_ofNat_of_zero_le (show 0 ≤ (sEx xh + man.log2) / 2 + 1073 by omega)
  obtain ⟨r1, r2⟩ := root_range x1 hv l1 l2 b0 (m := m) hm.symm
  obtain ⟨t1, t2⟩ := three_val ((sEx xh + man.log2) / 2 - 1) (by omega) (by omega)
  have em : ((sEx xh + man.log2) / 2 - 1 + 1074).toNat = m := by omega
  rw [em] at t2
  have m900 : 900 ≤ m := by omega
  have m1300 : m ≤ 1300 := by omega
  have hZ1 : (2 : Int) ^ 100 ≤ 2 ^ m := Fp.p2_le (by omega)
  have hZ2 : (2 : Int) ^ 20 * 2 ^ m ≤ cap := by
    have h1 : 2 ^ 20 * 2 ^ m ≤ cap := by rw [p2_mul]; exact capE_le (by unfold capE; omega)
    have h2 : ((2 ^ 20 * 2 ^ m : Nat) : Int) ≤ cap := by exact_mod_cast h1
    rwa [Int.natCast_mul, Fp.natp2_cast, Fp.natp2_cast] at h2
  obtain ⟨sq, q0, q1, q2, q3, q4, q5, q6⟩ := root_words hx.fh t1 hZ1 hZ2 r1 r2 t2
  obtain ⟨zh, zl, hS, fzh, fzl, zn, zc, z0, zb⟩ := sqrt_words hx q2 rfl m900 m1300 r1 r2 q4 q5 q6
  exact ⟨zh, zl, fun w hg => sqrt_pos xh xl man hx.fh.1 (fin_cl hx.fh hne) hn e1 m1 m2 x1 x2 b0 b1 sq q0 q1 hS w hg, fzh, fzl, zn, zc, z0, zb⟩
end Go.Proofs.YgctacDoor
