/-
  The law of eft.Split and eft.TwoProd over words.
-/
import Derived.Test.YgctacDoorMul4
import Derived.Test.YgctacDoorFpF
namespace Go.Proofs.YgctacDoor
open Fp (fv rnd Norm Near)
set_option linter.unusedVariables false

/-- One, in units of 2^-1074. -/
def KK : Int := 2 ^ 1074
theorem KK_pos : 0 < KK := Fp.p2pos _
theorem KK_def : KK = 2 ^ 1074 := rfl
theorem bigG (s : Nat) : ((Fp.big s : Nat) : Int) = 3 * cap * 2 ^ s := by
  unfold Fp.big cap
  rw [show 2096 + s = capE + s from rfl, Int.natCast_mul, Fp.natp2_cast, Fp.natp2_cast, Int.pow_add, Int.mul_assoc]
  rfl
theorem bigK : ((Fp.big 1074 : Nat) : Int) = 3 * cap * KK := bigG 1074

theorem mulW {x y : Nat} (hx : Fp.Fin x) (hy : Fp.Fin y) (hov : ((fv x * fv y).natAbs : Int) < 3 * cap * KK) :
    ∃ r, floatBits .mul .f64 x y = some r ∧ Fp.Fin r ∧ fv r = rnd 1074 (fv x * fv y) ∧ Near (fv x * fv y) KK (fv r) := by
  rw [← bigK] at hov
  obtain ⟨r, h1, h2, h3⟩ := Fp.mul_spec hx hy (by exact_mod_cast hov)
  exact ⟨r, h1, h2, h3, by rw [h3]; exact Fp.rnd_near _ _⟩

/-- A product whose value is K times a whole number: the nearest to that number. -/
theorem mulWK {x y : Nat} {n : Int} (hx : Fp.Fin x) (hy : Fp.Fin y) (e : fv x * fv y = n * KK) (hov : (n.natAbs : Int) < 3 * cap) :
    ∃ r, floatBits .mul .f64 x y = some r ∧ Fp.Fin r ∧ Near n 1 (fv r) := by
  obtain ⟨r, h1, h2, _, h4⟩ := mulW hx hy (by
    rw [e, Fp.mulK KK_pos]
    exact Int.mul_lt_mul_of_pos_right hov KK_pos)
  refine ⟨r, h1, h2, Fp.near_scale KK_pos ?_⟩
  rw [← e]; exact h4

theorem split_fin : Fp.Fin splitP := by refine (fin_iff (by decide)).1 ?_; decide +kernel
theorem split_val : fv splitP = 134217729 * KK := by
  rw [fv_split (by decide) split_fin]
  have h1 : sNg splitP = false := by decide +kernel
  have h2 : sMn splitP = 134217729 * 2 ^ 25 := by decide +kernel
  have h3 : (sEx splitP + 1074).toNat = 1049 := by decide +kernel
  rw [h1, h2, h3, Int.mul_assoc, ← Int.pow_add, KK_def]
  rfl

theorem norm_abs {a A : Int} {i : Nat} (h : Norm a A i) : (a.natAbs : Int) = (A.natAbs : Int) * 2 ^ i := by
  rw [h.1, Fp.natAbs_mul_p2, Int.natCast_mul, Fp.natp2_cast]

/-- Veltkamp's split, over words. -/
theorem splits_near {a : Nat} (fa : Fp.Fin a) (ha : 2 ^ 31 * (fv a).natAbs ≤ cap) :
    ∃ hi lo, Splits a hi lo ∧ Fp.Fin hi ∧ Fp.Fin lo ∧ (fv a = 0 → fv hi = 0 ∧ fv lo = 0) ∧
      (∀ A i, Norm (fv a) A i → ∃ H L : Int, fv hi = H * 2 ^ 27 * 2 ^ i ∧ fv lo = L * 2 ^ i ∧ H.natAbs ≤ 2 ^ 26 ∧ L.natAbs ≤ 2 ^ 26 ∧ H * 2 ^ 27 + L = A) := by
  have hp := cap_pos
  have e0 : ((134217729 * fv a).natAbs : Int) = 134217729 * ((fv a).natAbs : Int) := by rw [Int.natAbs_mul, Int.natCast_mul]; rfl
  obtain ⟨c, c1, c2, c3⟩ := mulWK (n := 134217729 * fv a) split_fin fa (by rw [split_val]; grind) (by rw [e0]; omega)
  have d1 := near_dbl c3
  have t1 := Fp.tri' (fv c) (fv a)
  obtain ⟨d, f1, f2, _, f4⟩ := subW c2 fa (by omega)
  have d2 := near_dbl f4
  have t2 := Fp.tri' (fv c) (fv d)
  have b2 : (fv c - fv d).natAbs ≤ 2 ^ 31 * (fv a).natAbs := by
    generalize (fv c - fv d).natAbs = X1 at *
    generalize (fv c - fv a).natAbs = X2 at *
    generalize (134217729 * fv a).natAbs = X3 at *
    generalize (fv a).natAbs = X4 at *
    generalize (fv c).natAbs = X5 at *
    generalize (fv d).natAbs = X6 at *
    omega
  obtain ⟨hi, g1, g2, _, g4⟩ := subW c2 f2 (by omega)
  have d3 := near_dbl g4
  have t3 := Fp.tri' (fv a) (fv hi)
  have b3 : (fv a - fv hi).natAbs < 3 * cap := by
    clear d1 t1 d2 t2
    generalize (fv a - fv hi).natAbs = X0 at *
    generalize (fv c - fv d).natAbs = X1 at *
    generalize (fv a).natAbs = X4 at *
    generalize (fv hi).natAbs = X5 at *
    omega
  obtain ⟨lo, l1, l2, _, l4⟩ := subW fa g2 b3
  refine ⟨hi, lo, ⟨⟨c, d, c1, f1, g1, l1⟩⟩, g2, l2, ?_, fun A i hn => Fp.split_exact hn c3 f4 g4 l4⟩
  intro z
  have h0 : fv c = 0 := by have := near_dbl c3; rw [z] at this; simpa using this
  have h1 : fv d = 0 := by have := near_dbl f4; rw [z, h0] at this; simpa using this
  have h2 : fv hi = 0 := by have := near_dbl g4; rw [h1, h0] at this; simpa using this
  have h3 : fv lo = 0 := by have := near_dbl l4; rw [h2, z] at this; simpa using this
  exact ⟨h2, h3⟩

/-- A rounded number's magnitude, at most twice. -/
theorem near_le {n x : Int} {M : Int} (h : Near n 1 x) (hn : (n.natAbs : Int) ≤ M) : (x.natAbs : Int) ≤ 2 * M := by
  have := near_dbl h
  omega
theorem sub_le {a b A B : Int} (ha : (a.natAbs : Int) ≤ A) (hb : (b.natAbs : Int) ≤ B) : ((a - b).natAbs : Int) ≤ A + B := by omega
theorem add_le' {a b A B : Int} (ha : (a.natAbs : Int) ≤ A) (hb : (b.natAbs : Int) ≤ B) : ((a + b).natAbs : Int) ≤ A + B := by omega

theorem mul_abs_le {x y : Int} {m n : Int} (hx : (x.natAbs : Int) ≤ m) (hy : (y.natAbs : Int) ≤ n) : ((x * y).natAbs : Int) ≤ m * n := by
  rw [Int.natAbs_mul, Int.natCast_mul]
  exact Int.mul_le_mul hx hy (by omega) (by omega)

/-- Dekker's product, over words, of two normal numbers. -/
theorem prods_norm {a b : Nat} (fa : Fp.Fin a) (fb : Fp.Fin b) (ha : 2 ^ 31 * (fv a).natAbs ≤ cap) (hb : 2 ^ 31 * (fv b).natAbs ≤ cap) {A B : Int} {i j s : Nat} (na : Norm (fv a) A i) (nb : Norm (fv b) B j)
    (hij : i + j = 1074 + s) (hs : 2 ^ 113 * 2 ^ s ≤ cap) :
    ∃ p e, Prods a b p e ∧ Fp.Fin p ∧ Fp.Fin e ∧ Near (A * B * 2 ^ s) 1 (fv p) ∧ fv e = A * B * 2 ^ s - fv p ∧ fv a * fv b = A * B * 2 ^ s * KK := by
  have hp := cap_pos
  obtain ⟨ah, al, sa, fah, fal, _, na'⟩ := splits_near fa ha
  obtain ⟨bh, bl, sb, fbh, fbl, _, nb'⟩ := splits_near fb hb
  obtain ⟨Ha, La, a1, a2, a3, a4, a5⟩ := na' A i na
  obtain ⟨Hb, Lb, b1, b2, b3, b4, b5⟩ := nb' B j nb
  clear na' nb'
  have eIJ : (2 : Int) ^ i * 2 ^ j = 2 ^ s * KK := by
    rw [KK_def, ← Int.pow_add, hij, Nat.add_comm, Int.pow_add]
  have hS := Fp.p2pos s
  have hs' : (2 : Int) ^ 113 * 2 ^ s ≤ cap := by
    have : ((2 ^ 113 * 2 ^ s : Nat) : Int) ≤ cap := by exact_mod_cast hs
    rw [Int.natCast_mul, Fp.natp2_cast, Fp.natp2_cast] at this
    exact this
  have eP : fv a * fv b = A * B * 2 ^ s * KK := by
    rw [na.1, nb.1]
    have : A * 2 ^ i * (B * 2 ^ j) = A * B * (2 ^ i * 2 ^ j) := by grind
    rw [this, eIJ]; grind
  have e1 : fv ah * fv bh = Ha * Hb * 2 ^ 54 * 2 ^ s * KK := by
    rw [a1, b1]
    have : Ha * 2 ^ 27 * 2 ^ i * (Hb * 2 ^ 27 * 2 ^ j) = Ha * Hb * 2 ^ 54 * (2 ^ i * 2 ^ j) := by grind
    rw [this, eIJ]; grind
  have e2 : fv ah * fv bl = Ha * Lb * 2 ^ 27 * 2 ^ s * KK := by
    rw [a1, b2]
    have : Ha * 2 ^ 27 * 2 ^ i * (Lb * 2 ^ j) = Ha * Lb * 2 ^ 27 * (2 ^ i * 2 ^ j) := by grind
    rw [this, eIJ]; grind
  have e3 : fv al * fv bh = La * Hb * 2 ^ 27 * 2 ^ s * KK := by
    rw [a2, b1]
    have : La * 2 ^ i * (Hb * 2 ^ 27 * 2 ^ j) = La * Hb * 2 ^ 27 * (2 ^ i * 2 ^ j) := by grind
    rw [this, eIJ]; grind
  have e4 : fv al * fv bl = La * Lb * 2 ^ s * KK := by
    rw [a2, b2]
    have : La * 2 ^ i * (Lb * 2 ^ j) = La * Lb * (2 ^ i * 2 ^ j) := by grind
    rw [this, eIJ]; grind
  have S : ((2 ^ s : Int).natAbs : Int) ≤ 2 ^ s := by omega
  have m0 : ((A * B * 2 ^ s).natAbs : Int) ≤ 2 ^ 53 * 2 ^ 53 * 2 ^ s := mul_abs_le (mul_abs_le (by have := na.2.2; omega) (by have := nb.2.2; omega)) S
  have m1 : ((Ha * Hb * 2 ^ 54 * 2 ^ s).natAbs : Int) ≤ 2 ^ 26 * 2 ^ 26 * 2 ^ 54 * 2 ^ s := mul_abs_le (mul_abs_le (mul_abs_le (by omega) (by omega)) (by decide)) S
  have m2 : ((Ha * Lb * 2 ^ 27 * 2 ^ s).natAbs : Int) ≤ 2 ^ 26 * 2 ^ 26 * 2 ^ 27 * 2 ^ s := mul_abs_le (mul_abs_le (mul_abs_le (by omega) (by omega)) (by decide)) S
  have m3 : ((La * Hb * 2 ^ 27 * 2 ^ s).natAbs : Int) ≤ 2 ^ 26 * 2 ^ 26 * 2 ^ 27 * 2 ^ s := mul_abs_le (mul_abs_le (mul_abs_le (by omega) (by omega)) (by decide)) S
  have m4 : ((La * Lb * 2 ^ s).natAbs : Int) ≤ 2 ^ 26 * 2 ^ 26 * 2 ^ s := mul_abs_le (mul_abs_le (by omega) (by omega)) S
  obtain ⟨p, p1, p2, p3⟩ := mulWK fa fb eP (by omega)
  obtain ⟨q1, q11, q12, q13⟩ := mulWK fah fbh e1 (by omega)
  obtain ⟨q2, q21, q22, q23⟩ := mulWK fah fbl e2 (by omega)
  obtain ⟨q3, q31, q32, q33⟩ := mulWK fal fbh e3 (by omega)
  obtain ⟨q4, q41, q42, q43⟩ := mulWK fal fbl e4 (by omega)
  have up := near_le p3 m0
  have u1 := near_le q13 m1
  have u2 := near_le q23 m2
  have u3 := near_le q33 m3
  have u4 := near_le q43 m4
  have v1 := sub_le u1 up
  obtain ⟨t1, t11, t12, _, t14⟩ := subW q12 p2 (by omega)
  have w1 := near_le t14 v1
  have v2 := add_le' w1 u2
  obtain ⟨t2, t21, t22, _, t24⟩ := addW t12 q22 (by omega)
  have w2 := near_le t24 v2
  have v3 := add_le' w2 u3
  obtain ⟨t3, t31, t32, _, t34⟩ := addW t22 q32 (by omega)
  have w3 := near_le t34 v3
  have v4 := add_le' w3 u4
  obtain ⟨e, t41, t42, _, t44⟩ := addW t32 q42 (by omega)
  refine ⟨p, e, ⟨⟨ah, al, bh, bl, q1, q2, q3, q4, t1, t2, t3, p1, sa, sb, q11, t11, q21, t21, q31, t31, q41, t41⟩⟩, p2, t42, p3, ?_, eP⟩
  exact Fp.prod_exact a5.symm b5.symm a3 a4 b3 b4 na.2.1 na.2.2 nb.2.1 nb.2.2 p3 q13 q23 q33 q43 t14 t24 t34 t44

theorem mulW0 {x y : Nat} (hx : Fp.Fin x) (hy : Fp.Fin y) (e : fv x = 0 ∨ fv y = 0) : ∃ r, floatBits .mul .f64 x y = some r ∧ Fp.Fin r ∧ fv r = 0 := by
  have hp := cap_pos
  obtain ⟨r, h1, h2, h3⟩ := mulWK (n := 0) hx hy (by rcases e with e | e <;> simp [e]) (by simp; omega)
  exact ⟨r, h1, h2, by have := near_dbl h3; simpa using this⟩
theorem addW0 {x y : Nat} (hx : Fp.Fin x) (hy : Fp.Fin y) (ex : fv x = 0) (ey : fv y = 0) : ∃ r, floatBits .add .f64 x y = some r ∧ Fp.Fin r ∧ fv r = 0 := by
  have hp := cap_pos
  obtain ⟨r, h1, h2, h3, _⟩ := addW hx hy (by rw [ex, ey]; simp; omega)
  exact ⟨r, h1, h2, by rw [h3, ex, ey]; exact Fp.rnd_zero 0⟩
theorem subW0 {x y : Nat} (hx : Fp.Fin x) (hy : Fp.Fin y) (ex : fv x = 0) (ey : fv y = 0) : ∃ r, floatBits .sub .f64 x y = some r ∧ Fp.Fin r ∧ fv r = 0 := by
  have hp := cap_pos
  obtain ⟨r, h1, h2, h3, _⟩ := subW hx hy (by rw [ex, ey]; simp; omega)
  exact ⟨r, h1, h2, by rw [h3, ex, ey]; exact Fp.rnd_zero 0⟩

/-- The product with a zero. -/
theorem prods_zero {a b : Nat} (fa : Fp.Fin a) (fb : Fp.Fin b) (ha : 2 ^ 31 * (fv a).natAbs ≤ cap) (hb : 2 ^ 31 * (fv b).natAbs ≤ cap) (hz : fv a = 0 ∨ fv b = 0) :
    ∃ p e, Prods a b p e ∧ Fp.Fin p ∧ Fp.Fin e ∧ fv p = 0 ∧ fv e = 0 := by
  obtain ⟨ah, al, sa, fah, fal, za, _⟩ := splits_near fa ha
  obtain ⟨bh, bl, sb, fbh, fbl, zb, _⟩ := splits_near fb hb
  have zz : (fv ah = 0 ∧ fv al = 0) ∨ (fv bh = 0 ∧ fv bl = 0) := hz.elim (fun h => .inl (za h)) (fun h => .inr (zb h))
  obtain ⟨p, p1, p2, p3⟩ := mulW0 fa fb hz
  obtain ⟨q1, q11, q12, q13⟩ := mulW0 fah fbh (zz.elim (fun h => .inl h.1) (fun h => .inr h.1))
  obtain ⟨q2, q21, q22, q23⟩ := mulW0 fah fbl (zz.elim (fun h => .inl h.1) (fun h => .inr h.2))
  obtain ⟨q3, q31, q32, q33⟩ := mulW0 fal fbh (zz.elim (fun h => .inl h.2) (fun h => .inr h.1))
  obtain ⟨q4, q41, q42, q43⟩ := mulW0 fal fbl (zz.elim (fun h => .inl h.2) (fun h => .inr h.2))
  obtain ⟨t1, t11, t12, t13⟩ := subW0 q12 p2 q13 p3
  obtain ⟨t2, t21, t22, t23⟩ := addW0 t12 q22 t13 q23
  obtain ⟨t3, t31, t32, t33⟩ := addW0 t22 q32 t23 q33
  obtain ⟨e, t41, t42, t43⟩ := addW0 t32 q42 t33 q43
  exact ⟨p, e, ⟨⟨ah, al, bh, bl, q1, q2, q3, q4, t1, t2, t3, p1, sa, sb, q11, t11, q21, t21, q31, t31, q41, t41⟩⟩, p2, t42, p3, t43⟩

/-- A normal number's place, from its magnitude. -/
theorem norm_low {a A : Int} {i m : Nat} (h : Norm a A i) (hm : 2 ^ m ≤ a.natAbs) : m < i + 53 := by
  have e : a.natAbs = A.natAbs * 2 ^ i := by rw [h.1, Fp.natAbs_mul_p2]
  have : 2 ^ m < 2 ^ (53 + i) := by
    rw [Nat.pow_add]
    exact Nat.lt_of_le_of_lt (e ▸ hm) (Nat.mul_lt_mul_of_pos_right h.2.2 (Nat.two_pow_pos i))
  have := (Nat.pow_lt_pow_iff_right (by decide : 1 < 2)).1 this
  omega
theorem norm_high {a A : Int} {i m : Nat} (h : Norm a A i) (hm : a.natAbs ≤ 2 ^ m) : 52 + i ≤ m := by
  have e : a.natAbs = A.natAbs * 2 ^ i := by rw [h.1, Fp.natAbs_mul_p2]
  have : 2 ^ (52 + i) ≤ 2 ^ m := by
    rw [Nat.pow_add]
    exact Nat.le_trans (Nat.mul_le_mul_right _ h.2.1) (e ▸ hm)
  exact (Nat.pow_le_pow_iff_right (by decide : 1 < 2)).1 this
end Go.Proofs.YgctacDoor
