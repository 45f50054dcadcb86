/-
  dd.Add: its steps over words; the law over words; the walk.
-/
import Derived.Test.YgctacTwo
import Derived.Test.YgctacFpD
namespace Go.Proofs.Ygctac
open Go.RowKit
open Fp (fv rnd)
set_option linter.unusedVariables false
set_option linter.unusedSimpArgs false

/-- Dekker's sum of two words: all three steps give a number. -/
structure Fasts (a b s e : Nat) : Prop where
  steps : ∃ z, floatBits .add .f64 a b = some s ∧ floatBits .sub .f64 s a = some z ∧ floatBits .sub .f64 b z = some e

theorem fasts_any {a b s e : Nat} (h : Fasts a b s e) (w : World) :
    Calls Tacg.prog 128 #[.float .f64 a, .float .f64 b] w fun r w' => r = .returned (.tuple #[.float .f64 s, .float .f64 e]) ∧ w' = w := by
  obtain ⟨z, h1, h2, h3⟩ := h.steps
  exact fast_any a b s z e h1 h2 h3 w

structure AddW (xh xl yh yl zh zl : Nat) : Prop where
  steps : ∃ sh sl th tl c vh vl wv, Sums xh yh sh sl ∧ Sums xl yl th tl ∧ floatBits .add .f64 sl th = some c ∧ Fasts sh c vh vl ∧ floatBits .add .f64 tl vl = some wv ∧ Fasts vh wv zh zl

set_option maxRecDepth 100000 in
set_option maxHeartbeats 1000000 in
theorem ddAdd_any {xh xl yh yl zh zl : Nat} (h : AddW xh xl yh yl zh zl) (w : World) :
    Calls Tacg.prog 53 #[.agg #[.float .f64 xh, .float .f64 xl], .agg #[.float .f64 yh, .float .f64 yl]] w fun r w' => r = .returned (.agg #[.float .f64 zh, .float .f64 zl]) ∧ Below w.heap.size w w' := by
  obtain ⟨sh, sl, th, tl, c, vh, vl, wv, h1, h2, h3, h4, h5, h6⟩ := h.steps
  have r3 := fun w => run_float_arith (P := Tacg.prog) w .add 74 .f64 sl th c h3
  have r5 := fun w => run_float_arith (P := Tacg.prog) w .add 74 .f64 tl vl wv h5
  clear h3 h5
  go_enter Tacg.func53, Tacg.ntmps53
  go_wp2_with fail
  refine (sums_any h1 _).mono ?_
  rintro e w1 ⟨rfl, rfl⟩
  go_wp2_with fail
  refine (sums_any h2 _).mono ?_
  rintro e w1 ⟨rfl, rfl⟩
  go_wp2_with fail
  refine (fasts_any h4 _).mono ?_
  rintro e w1 ⟨rfl, rfl⟩
  go_wp2_with fail
  refine (fasts_any h6 _).mono ?_
  rintro e w1 ⟨rfl, rfl⟩
  go_wp2
  refine bodyPost_ret (results_cell1 (by rfl) _ _ _ ⟨w.heap.size + 2, 0, none⟩ (.agg #[.float .f64 zh, .float .f64 zl]) rfl (cells_dd ?_ ?_)) rfl ⟨rfl, ?_⟩
  · simp [go_sem]
  · simp [go_sem]
  · exact (((Below.refl _ _).alloc (Nat.le_refl _) _).alloc (by rw [size_alloc]; omega) _).alloc (by rw [size_alloc, size_alloc]; omega) _

/-! ### the law over words -/
theorem near_dbl {n x : Int} (h : Fp.Near n 1 x) : x.natAbs ≤ 2 * n.natAbs := by
  have := (Fp.near_rel1 h).1
  omega

theorem fasts_near {a b : Nat} (fa : Fp.Fin a) (fb : Fp.Fin b) (M : Nat) (hM : 16 * M ≤ cap) (ha : (fv a).natAbs ≤ M) (hb : (fv b).natAbs ≤ M) :
    ∃ s e z, Fasts a b s e ∧ Fp.Fin s ∧ Fp.Fin e ∧ fv s = rnd 0 (fv a + fv b) ∧ Fp.Near (fv a + fv b) 1 (fv s) ∧ Fp.Near (fv s - fv a) 1 z ∧ Fp.Near (fv b - z) 1 (fv e) := by
  have hp := cap_pos
  have t1 := Fp.tri (fv a) (fv b)
  obtain ⟨s, s1, s2, s3, s4⟩ := addW fa fb (by omega)
  have d1 := near_dbl s4
  have t2 := Fp.tri' (fv s) (fv a)
  obtain ⟨z, z1, z2, z3, z4⟩ := subW s2 fa (by omega)
  have d2 := near_dbl z4
  have t3 := Fp.tri' (fv b) (fv z)
  obtain ⟨e, e1, e2, e3, e4⟩ := subW fb z2 (by
    generalize (fv b - fv z).natAbs = A at *
    generalize (fv s - fv a).natAbs = B at *
    generalize (fv a + fv b).natAbs = C at *
    generalize (fv a).natAbs = D at *
    generalize (fv b).natAbs = E at *
    generalize (fv s).natAbs = F at *
    generalize (fv z).natAbs = G at *
    omega)
  exact ⟨s, e, fv z, ⟨⟨z, s1, z1, e1⟩⟩, s2, e2, s3, s4, z4, e4⟩

theorem room : 65536 * hiB ≤ cap := by
  rw [show (65536 : Nat) = 2 ^ 16 from rfl]
  unfold hiB cap
  rw [← Nat.pow_add]
  exact Nat.pow_le_pow_right (by decide) (show 16 + hiE ≤ capE by decide)

theorem good_lo {hi lo : Nat} (h : Good hi lo) : Fp.Near (fv hi + fv lo) 1 (fv hi) ∧ 2 ^ 53 * (fv lo).natAbs ≤ (fv hi).natAbs := by
  have h1 : Fp.Near (fv hi + fv lo) 1 (fv hi) := by
    have := Fp.rnd_near1 (fv hi + fv lo)
    rwa [← h.norm] at this
  exact ⟨h1, Fp.lo_small h1⟩

theorem add_words {xh xl yh yl : Nat} (hx : Good xh xl) (hy : Good yh yl) :
    ∃ zh zl, AddW xh xl yh yl zh zl ∧ Fp.Fin zh ∧ Fp.Fin zl ∧ fv zh = rnd 0 (fv zh + fv zl) ∧ (fv zh + fv zl).natAbs < 3 * cap ∧
      2 ^ 103 * (fv zh + fv zl - (fv xh + fv xl + (fv yh + fv yl))).natAbs ≤ (fv xh + fv xl + (fv yh + fv yl)).natAbs ∧ (fv zh + fv zl).natAbs ≤ 1024 * hiB ∧ (fv xh + fv xl + (fv yh + fv yl)).natAbs ≤ 4 * hiB := by
  obtain ⟨nx, lx⟩ := good_lo hx
  obtain ⟨ny, ly⟩ := good_lo hy
  have mx := hx.most
  have my := hy.most
  have hR := room
  have hp := cap_pos
  have mxl : (fv xl).natAbs ≤ hiB := by omega
  have myl : (fv yl).natAbs ≤ hiB := by omega
  obtain ⟨sh, sl, h1, fsh, fsl, e1, e1'⟩ := sums_exact hx.fh hy.fh (by omega) (by omega)
  obtain ⟨th, tl, h2, fth, ftl, e2, e2'⟩ := sums_exact hx.fl hy.fl (by omega) (by omega)
  have n1 := Fp.rnd_near1 (fv xh + fv yh); rw [← e1'] at n1
  have n2 := Fp.rnd_near1 (fv xl + fv yl); rw [← e2'] at n2
  have d1 := near_dbl n1
  have d2 := near_dbl n2
  have t1 := Fp.tri (fv xh) (fv yh)
  have t2 := Fp.tri (fv xl) (fv yl)
  have b1 : (fv sh).natAbs ≤ 4 * hiB := by clear e1 e2 e1' e2' n1 n2; omega
  have b2 : (fv th).natAbs ≤ 4 * hiB := by clear e1 e2 e1' e2' n1 n2; omega
  have b3 : (fv sl).natAbs ≤ 6 * hiB := by have := Fp.tri' (fv xh + fv yh) (fv sh); rw [← e1] at this; clear e1 e2 e1' e2' n1 n2; omega
  have b4 : (fv tl).natAbs ≤ 6 * hiB := by have := Fp.tri' (fv xl + fv yl) (fv th); rw [← e2] at this; clear e1 e2 e1' e2' n1 n2; omega
  have bT : (fv xh + fv xl + (fv yh + fv yl)).natAbs ≤ 4 * hiB := by
    have := Fp.tri (fv xh + fv yh) (fv xl + fv yl)
    rw [show fv xh + fv yh + (fv xl + fv yl) = fv xh + fv xl + (fv yh + fv yl) by omega] at this
    clear e1 e2 e1' e2' n1 n2 d1 d2; omega
  have t3 := Fp.tri (fv sl) (fv th)
  obtain ⟨c, c1, fc, c3, nc⟩ := addW fsl fth (by clear e1 e2 e1' e2' n1 n2 d1 d2 t1 t2 lx ly; omega)
  have d3 := near_dbl nc
  have b5 : (fv c).natAbs ≤ 20 * hiB := by clear e1 e2 e1' e2' n1 n2 d1 d2 t1 t2 lx ly; omega
  obtain ⟨vh, vl, zv, h4, fvh, fvl, v1, v2, v3, v4⟩ := fasts_near fsh fc (20 * hiB) (by omega) (by omega) b5
  have t4 := Fp.tri (fv sh) (fv c)
  have d4 := near_dbl v2
  have b6 : (fv vh).natAbs ≤ 48 * hiB := by clear e1 e2 e1' e2' n1 n2 d1 d2 d3 t1 t2 t3 lx ly c3; omega
  have t5 := Fp.tri' (fv vh) (fv sh)
  have d5 := near_dbl v3
  have t6 := Fp.tri' (fv c) zv
  have d6 := near_dbl v4
  have b7 : (fv vl).natAbs ≤ 250 * hiB := by
    clear e1 e2 e1' e2' n1 n2 d1 d2 d3 t1 t2 t3 t4 d4 lx ly c3 b2 b3 b4 mx my mxl myl bT hR hp v1
    generalize (fv c - zv).natAbs = A at *
    generalize (fv vh - fv sh).natAbs = B at *
    generalize (fv vl).natAbs = C at *
    generalize zv.natAbs = D at *
    generalize (fv vh).natAbs = E at *
    generalize (fv sh).natAbs = F at *
    generalize (fv c).natAbs = G at *
    omega
  have t7 := Fp.tri (fv tl) (fv vl)
  obtain ⟨wv, w1, fwv, w3, nw⟩ := addW ftl fvl (by clear e1 e2 e1' e2' n1 n2 d1 d2 d3 d4 d5 d6 t1 t2 t3 t4 t5 t6 lx ly c3 v1 mx my mxl myl bT; omega)
  have d7 := near_dbl nw
  have b8 : (fv wv).natAbs ≤ 512 * hiB := by clear e1 e2 e1' e2' n1 n2 d1 d2 d3 d4 d5 d6 t1 t2 t3 t4 t5 t6 lx ly c3 v1 mx my mxl myl bT w3; omega
  obtain ⟨zh, zl, zz, h6, fzh, fzl, z1, z2, z3, z4⟩ := fasts_near fvh fwv (512 * hiB) (by clear e1 e2 e1' e2' n1 n2 d1 d2 d3 d4 d5 d6 t1 t2 t3 t4 t5 t6 lx ly c3 v1 mx my mxl myl bT w3; omega) (by clear e1 e2 e1' e2' n1 n2 d1 d2 d3 d4 d5 d6 t1 t2 t3 t4 t5 t6 lx ly c3 v1 mx my mxl myl bT w3; omega) b8
  have H : Fp.AddSteps (fv xh) (fv xl) (fv yh) (fv yl) (fv sh) (fv sl) (fv th) (fv tl) (fv c) (fv vh) (fv vl) (fv wv) (fv zh) (fv zl) :=
    ⟨Fp.fv_rep _, Fp.fv_rep _, Fp.fv_rep _, Fp.fv_rep _, nx, ny, n1, e1, n2, e2, nc, v2, ⟨zv, v3, v4⟩, nw, z2, ⟨zz, z3, z4⟩⟩
  obtain ⟨r1, r2⟩ := Fp.dd_add H
  have t8 := Fp.tri (fv vh) (fv wv)
  have b9 : (fv zh + fv zl).natAbs ≤ 1024 * hiB := by
    rw [r1]
    clear e1 e2 e1' e2' n1 n2 d1 d2 d3 d4 d5 d6 d7 t1 t2 t3 t4 t5 t6 t7 lx ly c3 v1 mx my mxl myl bT w3 r1 r2 z1 H
    omega
  refine ⟨zh, zl, ⟨⟨sh, sl, th, tl, c, vh, vl, wv, h1, h2, c1, h4, w1, h6⟩⟩, fzh, fzl, by rw [r1]; exact z1, ?_, r2, b9, bT⟩
  clear e1 e2 e1' e2' n1 n2 d1 d2 d3 d4 d5 d6 d7 t1 t2 t3 t4 t5 t6 t7 lx ly c3 v1 mx my mxl myl bT w3 r1 r2 z1 H
  omega
end Go.Proofs.Ygctac
