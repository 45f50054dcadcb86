/-
  Complex numbers of bounded parts, over words: no operation of tw.Mul and of fft.DFT's sums leaves the finite words.
-/
import Derived.Test.YgctacFv
namespace Go.Proofs.Ygctac.Cx
open Fp (fv rnd Near)
set_option linter.unusedVariables false

/-- One, in units of 2^-1074. -/
def KK : Int := 2 ^ 1074
theorem KK_pos : 0 < KK := Fp.p2pos _
def capE : Nat := 2096
def cap : Nat := 2 ^ capE
theorem cap_pos : 0 < cap := Nat.two_pow_pos capE
theorem big_cap : Fp.big 0 = 3 * cap := by
  unfold Fp.big cap
  rw [show 2096 + 0 = capE from rfl]
theorem bigG (s : Nat) : ((Fp.big s : Nat) : Int) = 3 * cap * 2 ^ s := by
  unfold Fp.big cap
  rw [show 2096 + s = capE + s from rfl, Int.natCast_mul, Fp.natp2_cast, Fp.natp2_cast, Int.pow_add, Int.mul_assoc]
  rfl
theorem bigK : ((Fp.big 1074 : Nat) : Int) = 3 * cap * KK := bigG 1074
theorem mulW {x y : Nat} (hx : Fp.Fin x) (hy : Fp.Fin y) (hov : ((fv x * fv y).natAbs : Int) < 3 * cap * KK) :
    ∃ r, floatBits .mul .f64 x y = some r ∧ Fp.Fin r ∧ fv r = rnd 1074 (fv x * fv y) ∧ Near (fv x * fv y) KK (fv r) := by
  rw [← bigK] at hov
  obtain ⟨r, h1, h2, h3⟩ := Fp.mul_spec hx hy (by exact_mod_cast hov)
  exact ⟨r, h1, h2, h3, by rw [h3]; exact Fp.rnd_near _ _⟩
theorem addW {x y : Nat} (hx : Fp.Fin x) (hy : Fp.Fin y) (hov : (fv x + fv y).natAbs < 3 * cap) : ∃ r, floatBits .add .f64 x y = some r ∧ Fp.Fin r ∧ fv r = rnd 0 (fv x + fv y) ∧ Fp.Near (fv x + fv y) 1 (fv r) := by
  obtain ⟨r, h1, h2, h3⟩ := Fp.add_spec hx hy (by rw [big_cap]; exact hov)
  exact ⟨r, h1, h2, h3, by rw [h3]; exact Fp.rnd_near1 _⟩
theorem subW {x y : Nat} (hx : Fp.Fin x) (hy : Fp.Fin y) (hov : (fv x - fv y).natAbs < 3 * cap) : ∃ r, floatBits .sub .f64 x y = some r ∧ Fp.Fin r ∧ fv r = rnd 0 (fv x - fv y) ∧ Fp.Near (fv x - fv y) 1 (fv r) := by
  obtain ⟨r, h1, h2, h3⟩ := Fp.sub_spec hx hy (by rw [big_cap]; exact hov)
  exact ⟨r, h1, h2, h3, by rw [h3]; exact Fp.rnd_near1 _⟩
theorem sub_le {a b A B : Int} (ha : (a.natAbs : Int) ≤ A) (hb : (b.natAbs : Int) ≤ B) : ((a - b).natAbs : Int) ≤ A + B := by omega
theorem add_le' {a b A B : Int} (ha : (a.natAbs : Int) ≤ A) (hb : (b.natAbs : Int) ≤ B) : ((a + b).natAbs : Int) ≤ A + B := by omega
theorem mul_abs_le {x y : Int} {m n : Int} (hx : (x.natAbs : Int) ≤ m) (hy : (y.natAbs : Int) ≤ n) : ((x * y).natAbs : Int) ≤ m * n := by
  rw [Int.natAbs_mul, Int.natCast_mul]
  exact Int.mul_le_mul hx hy (by omega) (by omega)

/-- x is finite, and |x| ≤ M. -/
def Bd (M x : Nat) : Prop := Fp.Fin x ∧ ((fv x).natAbs : Int) ≤ (M : Int) * KK

theorem rep_MK {M : Nat} (h : M ≤ 2 ^ 53) : Fp.Rep ((M : Int) * KK) := by
  unfold KK
  exact Fp.rep_mul (M : Int) _ (by simpa using h)
theorem KK_le : (2 : Int) ^ 53 * KK ≤ (cap : Int) := by
  unfold KK cap
  rw [Fp.natp2_cast, ← Int.pow_add]
  exact Fp.p2_le (by decide)
theorem MK_le {M : Nat} (h : M ≤ 2 ^ 53) : (M : Int) * KK ≤ (cap : Int) := by
  refine Int.le_trans (Int.mul_le_mul_of_nonneg_right ?_ (Int.le_of_lt KK_pos)) KK_le
  exact_mod_cast h
theorem capI : (0 : Int) < (cap : Int) := by exact_mod_cast cap_pos
theorem Bd.mono {M N x : Nat} (h : Bd M x) (hm : M ≤ N) : Bd N x :=
  ⟨h.1, Int.le_trans h.2 (Int.mul_le_mul_of_nonneg_right (by exact_mod_cast hm) (Int.le_of_lt KK_pos))⟩

def fop (op : BinOp) (x y : Nat) : Nat := (floatBits op .f64 x y).getD 0

theorem mulB {M N x y : Nat} (hx : Bd M x) (hy : Bd N y) (h : M * N ≤ 2 ^ 53) : floatBits .mul .f64 x y = some (fop .mul x y) ∧ Bd (M * N) (fop .mul x y) := by
  have hb := mul_abs_le hx.2 hy.2
  have e : (M : Int) * KK * ((N : Int) * KK) = ((M * N : Nat) : Int) * KK * KK := by
    rw [Int.natCast_mul]
    rw [Int.mul_assoc, Int.mul_comm KK, Int.mul_assoc (N : Int) KK KK, ← Int.mul_assoc, Int.mul_assoc ((M : Int) * N)]
  rw [e] at hb
  have hl : ((M * N : Nat) : Int) * KK * KK < 3 * cap * KK := by
    refine Int.mul_lt_mul_of_pos_right ?_ KK_pos
    have := MK_le h
    have := capI
    omega
  obtain ⟨r, h1, h2, _, h4⟩ := mulW hx.1 hy.1 (Int.lt_of_le_of_lt hb hl)
  have er : fop .mul x y = r := by unfold fop; rw [h1]; rfl
  rw [er]
  exact ⟨h1, h2, Fp.near_abs_le KK_pos h4 (rep_MK h) hb⟩
theorem addB {M N x y : Nat} (hx : Bd M x) (hy : Bd N y) (h : M + N ≤ 2 ^ 53) : floatBits .add .f64 x y = some (fop .add x y) ∧ Bd (M + N) (fop .add x y) := by
  have hb := add_le' hx.2 hy.2
  have e : (M : Int) * KK + (N : Int) * KK = ((M + N : Nat) : Int) * KK := by rw [Int.natCast_add, Int.add_mul]
  rw [e] at hb
  have := MK_le h
  have := capI
  obtain ⟨r, h1, h2, _, h4⟩ := addW hx.1 hy.1 (by omega)
  have er : fop .add x y = r := by unfold fop; rw [h1]; rfl
  rw [er]
  exact ⟨h1, h2, Fp.near_abs_le (by decide) h4 (rep_MK h) (by rw [Int.mul_one]; exact hb)⟩
theorem subB {M N x y : Nat} (hx : Bd M x) (hy : Bd N y) (h : M + N ≤ 2 ^ 53) : floatBits .sub .f64 x y = some (fop .sub x y) ∧ Bd (M + N) (fop .sub x y) := by
  have hb := sub_le hx.2 hy.2
  have e : (M : Int) * KK + (N : Int) * KK = ((M + N : Nat) : Int) * KK := by rw [Int.natCast_add, Int.add_mul]
  rw [e] at hb
  have := MK_le h
  have := capI
  obtain ⟨r, h1, h2, _, h4⟩ := subW hx.1 hy.1 (by omega)
  have er : fop .sub x y = r := by unfold fop; rw [h1]; rfl
  rw [er]
  exact ⟨h1, h2, Fp.near_abs_le (by decide) h4 (rep_MK h) (by rw [Int.mul_one]; exact hb)⟩

/-- Both parts finite and at most M. -/
def CB (M : Nat) (z : Nat × Nat) : Prop := Bd M z.1 ∧ Bd M z.2
theorem CB.mono {M N : Nat} {z : Nat × Nat} (h : CB M z) (hm : M ≤ N) : CB N z := ⟨h.1.mono hm, h.2.mono hm⟩
/-- tw.Mul. -/
def cmul (x y : Nat × Nat) : Nat × Nat := (fop .sub (fop .mul x.1 y.1) (fop .mul x.2 y.2), fop .add (fop .mul x.1 y.2) (fop .mul x.2 y.1))
def cadd (x y : Nat × Nat) : Nat × Nat := (fop .add x.1 y.1, fop .add x.2 y.2)
theorem cmul_ok {M N K : Nat} {x y : Nat × Nat} (hx : CB M x) (hy : CB N y) (hK : K = M * N + M * N) (h : K ≤ 2 ^ 53) :
    CB K (cmul x y) ∧ floatBits .mul .f64 x.1 y.1 = some (fop .mul x.1 y.1) ∧ floatBits .mul .f64 x.2 y.2 = some (fop .mul x.2 y.2) ∧ floatBits .mul .f64 x.1 y.2 = some (fop .mul x.1 y.2) ∧ floatBits .mul .f64 x.2 y.1 = some (fop .mul x.2 y.1) ∧
      floatBits .sub .f64 (fop .mul x.1 y.1) (fop .mul x.2 y.2) = some (cmul x y).1 ∧ floatBits .add .f64 (fop .mul x.1 y.2) (fop .mul x.2 y.1) = some (cmul x y).2 := by
  subst hK
  have p1 := mulB hx.1 hy.1 (by omega)
  have p2 := mulB hx.2 hy.2 (by omega)
  have p3 := mulB hx.1 hy.2 (by omega)
  have p4 := mulB hx.2 hy.1 (by omega)
  have s := subB p1.2 p2.2 h
  have a := addB p3.2 p4.2 h
  exact ⟨⟨s.2, a.2⟩, p1.1, p2.1, p3.1, p4.1, s.1, a.1⟩
theorem cadd_ok {M N K : Nat} {x y : Nat × Nat} (hx : CB M x) (hy : CB N y) (hK : K = M + N) (h : K ≤ 2 ^ 53) :
    CB K (cadd x y) ∧ floatBits .add .f64 x.1 y.1 = some (cadd x y).1 ∧ floatBits .add .f64 x.2 y.2 = some (cadd x y).2 := by
  subst hK
  have p1 := addB hx.1 hy.1 h
  have p2 := addB hx.2 hy.2 h
  exact ⟨⟨p1.2, p2.2⟩, p1.1, p2.1⟩

/-- The bounds of a word, reckoned. -/
def bdB (M x : Nat) : Bool := decide (x < 18446744073709551616) && decide (sCl x ≤ 1) && decide (((fv x).natAbs : Int) ≤ (M : Int) * KK)
theorem bd_of {M x : Nat} (h : bdB M x = true) : Bd M x := by
  unfold bdB at h
  simp only [Bool.and_eq_true, decide_eq_true_eq] at h
  exact ⟨(fin_iff h.1.1).1 h.1.2, h.2⟩

def one : Nat × Nat := (4607182418800017408, 0)
def baseW (t : Nat) : Nat × Nat :=
  if t = 0 then one else if t = 1 then (13830554455654793216, 0) else if t = 2 then (0, 13830554455654793216)
  else if t = 3 then (4604544271217802189, 13827916308072577997) else if t = 4 then (4606496786581982534, 13823937468626282851)
  else if t = 5 then (4607009347991985328, 13819568926757594635) else if t = 6 then (4607139046673687846, 13815099336824566828)
  else if t = 7 then (4607171569234046334, 13810604255004710932) else if t = 8 then (4607179706000002317, 13806102785791583870)
  else if t = 9 then (4607181740574479067, 13801599718827935620) else if t = 10 then (4607182249242036882, 13797096252370255985)
  else if t = 11 then (4607182376410422530, 13792592686035543226) else (0, 0)
theorem one_cb : CB 1 one := ⟨bd_of (by decide +kernel), bd_of (by decide +kernel)⟩
theorem zero_bd : Bd 0 0 := bd_of (by decide +kernel)
theorem zero_cb : CB 0 (0, 0) := ⟨zero_bd, zero_bd⟩
theorem base_cb (t : Nat) : CB 1 (baseW t) := by
  by_cases h : t ≤ 11
  · have cs : t = 0 ∨ t = 1 ∨ t = 2 ∨ t = 3 ∨ t = 4 ∨ t = 5 ∨ t = 6 ∨ t = 7 ∨ t = 8 ∨ t = 9 ∨ t = 10 ∨ t = 11 := by omega
    rcases cs with rfl | rfl | rfl | rfl | rfl | rfl | rfl | rfl | rfl | rfl | rfl | rfl <;> exact ⟨bd_of (by decide +kernel), bd_of (by decide +kernel)⟩
  · have e : baseW t = (0, 0) := by
      unfold baseW
      rw [if_neg, if_neg, if_neg, if_neg, if_neg, if_neg, if_neg, if_neg, if_neg, if_neg, if_neg, if_neg] <;> omega
    rw [e]
    exact zero_cb.mono (by decide)

/-- The table's first 2^b entries. -/
def tabF (k : Nat) : Nat → Nat → Nat × Nat
  | 0, _ => one
  | b + 1, j => if j < 2 ^ b then tabF k b j else cmul (tabF k b (j - 2 ^ b)) (baseW (k - b))
theorem p2_53 {b : Nat} (h : b ≤ 53) : 2 ^ b ≤ 2 ^ 53 := Nat.pow_le_pow_right (by decide) h
theorem tabF_cb (k : Nat) : ∀ b, b ≤ 53 → ∀ j, CB (2 ^ b) (tabF k b j) := by
  intro b
  induction b with
  | zero => intro _ j; exact one_cb
  | succ b ih =>
    intro hb j
    unfold tabF
    split
    · exact (ih (by omega) j).mono (Nat.pow_le_pow_right (by decide) (by omega))
    · exact (cmul_ok (ih (by omega) _) (base_cb _) (by rw [Nat.pow_succ]; omega) (p2_53 hb)).1
theorem tabF_low (k b j : Nat) (h : j < 2 ^ b) : tabF k (b + 1) j = tabF k b j := by
  show (if j < 2 ^ b then tabF k b j else _) = _
  rw [if_pos h]
theorem tabF_high (k b j : Nat) : tabF k (b + 1) (2 ^ b + j) = cmul (tabF k b j) (baseW (k - b)) := by
  show (if 2 ^ b + j < 2 ^ b then tabF k b (2 ^ b + j) else cmul (tabF k b (2 ^ b + j - 2 ^ b)) (baseW (k - b))) = _
  rw [if_neg (by omega), Nat.add_sub_cancel_left]
end Go.Proofs.Ygctac.Cx
