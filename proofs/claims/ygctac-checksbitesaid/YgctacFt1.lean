/-
  Complex numbers with parts below a power of two, over words (for the fast transform); rows of them.
-/
import Derived.Test.YgctacSk5
import Derived.Test.YgctacFpG
import Derived.BigRegion
namespace Go.Proofs.Ygctac.Cx
open Go.RowKit
open Fp (fv rnd Near)
set_option linter.unusedVariables false

theorem PK (e : Nat) : (((2 ^ e : Nat) : Int)) * KK = 2 ^ (e + 1074) := by
  unfold KK
  rw [Fp.natp2_cast, ← Int.pow_add]
theorem rep_PK (e : Nat) : Fp.Rep (((2 ^ e : Nat) : Int) * KK) := by rw [PK]; exact Fp.rep_p2 _
theorem PK_le {e : Nat} (h : e ≤ 1000) : ((2 ^ e : Nat) : Int) * KK ≤ (cap : Int) := by
  rw [PK]
  unfold cap
  rw [Fp.natp2_cast]
  refine Fp.p2_le ?_
  unfold capE
  omega
theorem mulE {a b e x y : Nat} (hx : Bd (2 ^ a) x) (hy : Bd (2 ^ b) y) (he : e = a + b) (h : e ≤ 1000) : floatBits .mul .f64 x y = some (fop .mul x y) ∧ Bd (2 ^ e) (fop .mul x y) := by
  subst he
  have hb := mul_abs_le hx.2 hy.2
  have e1 : ((2 ^ a : Nat) : Int) * KK * (((2 ^ b : Nat) : Int) * KK) = ((2 ^ (a + b) : Nat) : Int) * KK * KK := by
    rw [Nat.pow_add, Int.natCast_mul]
    generalize ((2 ^ a : Nat) : Int) = A
    generalize ((2 ^ b : Nat) : Int) = B
    rw [Int.mul_assoc, Int.mul_comm KK, Int.mul_assoc B KK KK, ← Int.mul_assoc, Int.mul_assoc (A * B)]
  rw [e1] at hb
  have hp := PK_le h
  have hc := capI
  have hl : ((2 ^ (a + b) : Nat) : Int) * KK * KK < 3 * cap * KK := by
    refine Int.mul_lt_mul_of_pos_right ?_ KK_pos
    generalize ((2 ^ (a + b) : Nat) : Int) * KK = Z at *
    omega
  obtain ⟨r, h1, h2, _, h4⟩ := mulW hx.1 hy.1 (Int.lt_of_le_of_lt hb hl)
  have er : fop .mul x y = r := by unfold fop; rw [h1]; rfl
  rw [er]
  exact ⟨h1, h2, Fp.near_abs_le KK_pos h4 (rep_PK _) hb⟩
theorem sumE {a x y : Nat} (hx : Bd (2 ^ a) x) (hy : Bd (2 ^ a) y) (h : a + 1 ≤ 1000) :
    (floatBits .add .f64 x y = some (fop .add x y) ∧ Bd (2 ^ (a + 1)) (fop .add x y)) ∧ (floatBits .sub .f64 x y = some (fop .sub x y) ∧ Bd (2 ^ (a + 1)) (fop .sub x y)) := by
  have hb := add_le' hx.2 hy.2
  have hb2 := sub_le hx.2 hy.2
  have e : ((2 ^ a : Nat) : Int) * KK + ((2 ^ a : Nat) : Int) * KK = ((2 ^ (a + 1) : Nat) : Int) * KK := by
    rw [Nat.pow_succ, Int.natCast_mul]
    generalize ((2 ^ a : Nat) : Int) = A
    rw [Int.mul_assoc, Int.mul_comm ((2 : Nat) : Int) KK, ← Int.mul_assoc]
    generalize A * KK = Z
    omega
  rw [e] at hb hb2
  have hp := PK_le h
  have hc := capI
  have hr := rep_PK (a + 1)
  generalize hZ : ((2 ^ (a + 1) : Nat) : Int) * KK = Z at *
  obtain ⟨r, h1, h2, _, h4⟩ := addW hx.1 hy.1 (by omega)
  obtain ⟨r', h1', h2', _, h4'⟩ := subW hx.1 hy.1 (by omega)
  have er : fop .add x y = r := by unfold fop; rw [h1]; rfl
  have er' : fop .sub x y = r' := by unfold fop; rw [h1']; rfl
  have u1 := Fp.near_abs_le (by decide) h4 hr (by rw [Int.mul_one]; exact hb)
  have u2 := Fp.near_abs_le (by decide) h4' hr (by rw [Int.mul_one]; exact hb2)
  rw [er, er']
  exact ⟨⟨h1, h2, by rw [hZ]; exact u1⟩, h1', h2', by rw [hZ]; exact u2⟩

/-- Both parts below 2^e. -/
def CE (e : Nat) (z : Nat × Nat) : Prop := Bd (2 ^ e) z.1 ∧ Bd (2 ^ e) z.2
theorem CE.mono {e f : Nat} {z : Nat × Nat} (h : CE e z) (hf : e ≤ f) : CE f z := ⟨h.1.mono (Nat.pow_le_pow_right (by decide) hf), h.2.mono (Nat.pow_le_pow_right (by decide) hf)⟩
def csub (x y : Nat × Nat) : Nat × Nat := (fop .sub x.1 y.1, fop .sub x.2 y.2)
theorem cmulE {a b e : Nat} {x y : Nat × Nat} (hx : CE a x) (hy : CE b y) (he : e = a + b + 1) (h : e ≤ 1000) :
    CE e (cmul x y) ∧ floatBits .mul .f64 x.1 y.1 = some (fop .mul x.1 y.1) ∧ floatBits .mul .f64 x.2 y.2 = some (fop .mul x.2 y.2) ∧ floatBits .mul .f64 x.1 y.2 = some (fop .mul x.1 y.2) ∧ floatBits .mul .f64 x.2 y.1 = some (fop .mul x.2 y.1) ∧
      floatBits .sub .f64 (fop .mul x.1 y.1) (fop .mul x.2 y.2) = some (cmul x y).1 ∧ floatBits .add .f64 (fop .mul x.1 y.2) (fop .mul x.2 y.1) = some (cmul x y).2 := by
  subst he
  have p1 := mulE hx.1 hy.1 rfl (by omega)
  have p2 := mulE hx.2 hy.2 rfl (by omega)
  have p3 := mulE hx.1 hy.2 rfl (by omega)
  have p4 := mulE hx.2 hy.1 rfl (by omega)
  have s := (sumE p1.2 p2.2 h).2
  have t := (sumE p3.2 p4.2 h).1
  exact ⟨⟨s.2, t.2⟩, p1.1, p2.1, p3.1, p4.1, s.1, t.1⟩
theorem csumE {a : Nat} {x y : Nat × Nat} (hx : CE a x) (hy : CE a y) (h : a + 1 ≤ 1000) :
    (CE (a + 1) (cadd x y) ∧ floatBits .add .f64 x.1 y.1 = some (cadd x y).1 ∧ floatBits .add .f64 x.2 y.2 = some (cadd x y).2) ∧
    (CE (a + 1) (csub x y) ∧ floatBits .sub .f64 x.1 y.1 = some (csub x y).1 ∧ floatBits .sub .f64 x.2 y.2 = some (csub x y).2) := by
  have u := sumE hx.1 hy.1 h
  have v := sumE hx.2 hy.2 h
  exact ⟨⟨⟨u.1.2, v.1.2⟩, u.1.1, v.1.1⟩, ⟨u.2.2, v.2.2⟩, u.2.1, v.2.1⟩
theorem CB.ce {M e : Nat} {z : Nat × Nat} (h : CB M z) (hM : M ≤ 2 ^ e) : CE e z := ⟨h.1.mono hM, h.2.mono hM⟩

/-- Block g is a row of n complex numbers, each below 2^e. -/
def CRE (w : World) (g n e : Nat) : Prop := ∃ F, (∀ i, CE e (F i)) ∧ CRow w g n F
theorem CRE.mono {w : World} {g n e f : Nat} (h : CRE w g n e) (hf : e ≤ f) : CRE w g n f := by
  obtain ⟨F, h1, h2⟩ := h
  exact ⟨F, fun i => (h1 i).mono hf, h2⟩
theorem CRE.cell {w : World} {g n e : Nat} (h : CRE w g n e) {i : Nat} (hi : i < n) : ∃ z, CE e z ∧ w.cell? ⟨g, i, none⟩ = some (.complex .f64 z.1 z.2) := by
  obtain ⟨F, h1, h2⟩ := h
  exact ⟨F i, h1 i, h2.cell i hi⟩
theorem CRE.frozen {w : World} {g n e : Nat} (h : CRE w g n e) (i : Nat) : w.frozen? ⟨g, i, none⟩ = false := by
  obtain ⟨F, h1, h2⟩ := h
  exact h2.frozen i
theorem CRE.set {w : World} {g n e : Nat} (h : CRE w g n e) {i : Nat} (hi : i < n) {z : Nat × Nat} (hz : CE e z) : CRE (w.setCell ⟨g, i, none⟩ (.complex .f64 z.1 z.2)) g n e := by
  obtain ⟨F, h1, h2⟩ := h
  refine ⟨_, fun j => ?_, h2.set i hi z⟩
  by_cases c : j = i
  · simp only [c, if_true]; exact hz
  · simp only [c, if_false]; exact h1 j
theorem CRE.lt {w : World} {g n e : Nat} (h : CRE w g n e) : g < w.heap.size := by
  obtain ⟨F, h1, h2⟩ := h
  exact h2.lt
theorem CRE.below {w w' : World} {g n e B : Nat} (h : CRE w g n e) (hb : Below B w w') (hB : g < B) : CRE w' g n e := by
  obtain ⟨F, h1, h2⟩ := h
  exact ⟨F, h1, h2.below hb hB⟩
theorem CRE.drewN {w : World} {g n e d : Nat} (h : CRE w g n e) : CRE (w.drewN d) g n e := h
theorem CRE.other {w : World} {g n e : Nat} (h : CRE w g n e) {a : Addr} (ha : a.block ≠ g) (v : Value) : CRE (w.setCell a v) g n e := by
  obtain ⟨F, h1, h2⟩ := h
  exact ⟨F, h1, h2.other ha v⟩
theorem zero_ce (e : Nat) : CE e (0, 0) := zero_cb.ce (Nat.zero_le _)
theorem CRE.new (w : World) (n e : Nat) : CRE (w.alloc (.cells (madeCells #[.complex .f64 0 0] n) 143)) w.heap.size n e := ⟨_, fun _ => zero_ce e, CRow.new w n⟩

/-- Fr stands whatever is written into block g. -/
def St (Fr : World → Prop) (g : Nat) : Prop := (∀ W a v, a.block = g → Fr W → Fr (World.setCell W a v)) ∧ ∀ W d, Fr W → Fr (World.drewN W d)
/-- A table beside, and what else is to stand. -/
def TF (Fr : World → Prop) (w : World) (gt n : Nat) : Prop := CRE w gt n 10 ∧ Fr w
theorem TF.other {Fr : World → Prop} {w : World} {gt n g : Nat} (h : TF Fr w gt n) (st : St Fr g) (hne : g ≠ gt) {a : Addr} (ha : a.block = g) (v : Value) : TF Fr (w.setCell a v) gt n :=
  ⟨h.1.other (by rw [ha]; exact hne) v, st.1 _ _ _ ha h.2⟩
theorem TF.drewN {Fr : World → Prop} {w : World} {gt n g d : Nat} (h : TF Fr w gt n) (st : St Fr g) : TF Fr (w.drewN d) gt n := ⟨h.1, st.2 _ _ h.2⟩
theorem cap_def : cap = 2 ^ 2096 := by
  unfold cap
  rw [show capE = 2096 from rfl]
theorem divE {e x y : Nat} (hx : Bd (2 ^ e) x) (hy : Fp.Fin y) (h1 : (1 : Int) * KK ≤ ((fv y).natAbs : Int)) (he : e ≤ 1000) : floatBits .quo .f64 x y = some (fop .quo x y) := by
  have hk := KK_pos
  obtain ⟨r, h, _⟩ := Fp.div_spec hx.1 hy (fun h0 => by rw [h0] at h1; simp at h1; omega) (C := cap) cap_def (by
    have a := hx.2
    have b := PK_le he
    have c : ((fv x).natAbs : Int) * KK ≤ (cap : Int) * ((fv y).natAbs : Int) := by
      refine Int.mul_le_mul (Int.le_trans a b) (by rw [Int.one_mul] at h1; exact h1) (Int.le_of_lt hk) (Int.le_of_lt capI)
    have d : ((fv x).natAbs : Int) * KK = (((fv x).natAbs * 2 ^ 1074 : Nat) : Int) := by
      rw [Int.natCast_mul]
      exact congrArg (fun t => ((fv x).natAbs : Int) * t) (Fp.natp2_cast 1074).symm
    rw [d] at c
    exact_mod_cast c)
  have er : fop .quo x y = r := by
    unfold fop
    have : floatBits .quo .f64 x y = some r := h
    rw [this]; rfl
  rw [er]
  exact h
end Go.Proofs.Ygctac.Cx
