/-
  Knuth's and Dekker's sums over words: exact, where nothing overflows.
-/
import Derived.Test.YgctacDD1
namespace Go.Proofs.Ygctac
open Fp (fv rnd)
set_option linter.unusedVariables false

/-- A third of the overflow's bound, under a name. -/
def capE : Nat := 2096
def cap : Nat := 2 ^ capE
theorem cap_pos : 0 < cap := Nat.two_pow_pos capE
theorem big_cap : Fp.big 0 = 3 * cap := by
  unfold Fp.big cap
  rw [show 2096 + 0 = capE from rfl]

theorem addW {x y : Nat} (hx : Fp.Fin x) (hy : Fp.Fin y) (hov : (fv x + fv y).natAbs < 3 * cap) : ∃ r, floatBits .add .f64 x y = some r ∧ Fp.Fin r ∧ fv r = rnd 0 (fv x + fv y) ∧ Fp.Near (fv x + fv y) 1 (fv r) := by
  obtain ⟨r, h1, h2, h3⟩ := Fp.add_spec hx hy (by rw [big_cap]; exact hov)
  exact ⟨r, h1, h2, h3, by rw [h3]; exact Fp.rnd_near1 _⟩

theorem subW {x y : Nat} (hx : Fp.Fin x) (hy : Fp.Fin y) (hov : (fv x - fv y).natAbs < 3 * cap) : ∃ r, floatBits .sub .f64 x y = some r ∧ Fp.Fin r ∧ fv r = rnd 0 (fv x - fv y) ∧ Fp.Near (fv x - fv y) 1 (fv r) := by
  obtain ⟨r, h1, h2, h3⟩ := Fp.sub_spec hx hy (by rw [big_cap]; exact hov)
  exact ⟨r, h1, h2, h3, by rw [h3]; exact Fp.rnd_near1 _⟩

/-- A rounded number lies near, in two inequalities. -/
theorem near_two {n x D : Int} (h : Fp.Near n 1 x) (h1 : -(2 ^ 53 * D) ≤ n) (h2 : n ≤ 2 ^ 53 * D) : -D ≤ x - n ∧ x - n ≤ D := by
  have := (Fp.near_rel1 h).1
  omega

theorem cap_parts : ∃ D : Int, 0 < D ∧ (cap : Int) = 2 ^ 53 * D := by
  refine ⟨2 ^ (capE - 53), Fp.p2pos _, ?_⟩
  unfold cap
  rw [Fp.natp2_cast, ← Int.pow_add]
  rfl

theorem sums_exact {a b : Nat} (ha : Fp.Fin a) (hb : Fp.Fin b) (ba : (fv a).natAbs ≤ cap) (bb : (fv b).natAbs ≤ cap) :
    ∃ s e, Sums a b s e ∧ Fp.Fin s ∧ Fp.Fin e ∧ fv e = fv a + fv b - fv s ∧ fv s = rnd 0 (fv a + fv b) := by
  obtain ⟨D, hD, hM⟩ := cap_parts
  have a1 : -(2 ^ 53 * D) ≤ fv a := by omega
  have a2 : fv a ≤ 2 ^ 53 * D := by omega
  have b1 : -(2 ^ 53 * D) ≤ fv b := by omega
  have b2 : fv b ≤ 2 ^ 53 * D := by omega
  clear ba bb
  obtain ⟨s, s1, s2, s3, s4⟩ := addW ha hb (by omega)
  have n1 := near_two (D := 2 * D) s4 (by omega) (by omega)
  obtain ⟨c, c1, c2, c3, c4⟩ := subW s2 ha (by clear s3; omega)
  have n2 := near_two (D := 2 * D) c4 (by clear s3 c3; omega) (by clear s3 c3; omega)
  obtain ⟨d, d1, d2, d3, d4⟩ := subW s2 c2 (by clear s3 c3; omega)
  have n3 := near_two (D := 2 * D) d4 (by clear s3 c3 d3; omega) (by clear s3 c3 d3; omega)
  obtain ⟨f, f1, f2, f3, f4⟩ := subW hb c2 (by clear s3 c3 d3; omega)
  have n4 := near_two (D := 2 * D) f4 (by clear s3 c3 d3 f3; omega) (by clear s3 c3 d3 f3; omega)
  obtain ⟨g, g1, g2, g3, g4⟩ := subW ha d2 (by clear s3 c3 d3 f3; omega)
  have n5 := near_two (D := 2 * D) g4 (by clear s3 c3 d3 f3 g3; omega) (by clear s3 c3 d3 f3 g3; omega)
  obtain ⟨e, e1, e2, e3, e4⟩ := addW g2 f2 (by clear s3 c3 d3 f3 g3; omega)
  refine ⟨s, e, ⟨⟨c, d, f, g, s1, c1, d1, f1, g1, e1⟩⟩, s2, e2, ?_, s3⟩
  exact Fp.two_sum (Fp.fv_rep a) (Fp.fv_rep b) s4 c4 d4 f4 g4 e4

/-- The upper part is the sum rounded: the words' own '=='. -/
theorem normal_of {s e : Nat} (hs : Fp.Fin s) (he : Fp.Fin e) (h : fv s = rnd 0 (fv s + fv e)) (hov : (fv s + fv e).natAbs < 3 * cap) :
    ∃ t, floatBits .add .f64 s e = some t ∧ Ieee.double.order s t = some .eq := by
  obtain ⟨t, t1, t2, t3, _⟩ := addW hs he hov
  exact ⟨t, t1, Fp.order_eq hs t2 (by rw [t3, h.symm])⟩

theorem fin_lt {p : Nat} (h : Fp.Fin p) : p < 18446744073709551616 := h.1
end Go.Proofs.Ygctac
