import Derived.Test.YgctacDoorFpE
namespace Go.Proofs.YgctacDoor.Fp
set_option linter.unusedVariables false

/-- The lower part of a normal twofold number is at most half a unit of the upper one's last place. -/
theorem lo_half {xh xl A : Int} {i : Nat} (hn : Norm xh A i) (h : Near (xh + xl) 1 xh) : 2 * (xl.natAbs : Int) ≤ 2 ^ i := by
  obtain ⟨ea, a1, a2⟩ := hn
  have hT := p2pos i
  have absA : ((xh.natAbs : Nat) : Int) = (A.natAbs : Int) * 2 ^ i := by rw [ea, natAbs_mul_p2, Int.natCast_mul, natp2_cast]
  have hlt : (xh.natAbs : Int) < 2 ^ 53 * 2 ^ i := by rw [absA]; exact Int.mul_lt_mul_of_pos_right (by omega) hT
  have hb : ((xh + xl).natAbs : Int) ≤ 2 ^ 53 * 2 ^ i := by
    rcases Int.lt_or_le (2 ^ 53 * 2 ^ i) ((xh + xl).natAbs : Int) with hh | hh
    · have := near_abs_ge (by omega) h (f := 2 ^ 53 * 2 ^ i) (rep_mul _ _ (by decide)) (by omega)
      omega
    · exact hh
  have := near_half (by omega) h i (by omega)
  omega

/-- The steps of the product of two twofold numbers, over whole numbers; K = 2^1074. -/
structure MulSteps (K xh xl yh yl ch cl p1 p2 mid c zh zl : Int) : Prop where
  nx : Near (xh + xl) 1 xh
  ny : Near (yh + yl) 1 yh
  hch : Near (xh * yh) K ch
  hcl : cl * K = xh * yh - ch * K
  hp1 : Near (xh * yl) K p1
  hp2 : Near (xl * yh) K p2
  hmid : Near (p1 + p2) 1 mid
  hc : Near (cl + mid) 1 c
  hz : Near (ch + c) 1 zh
  hzl : ∃ z, Near (zh - ch) 1 z ∧ Near (c - z) 1 zl

theorem mul_arith (T P EC EM : Int) (hT : 0 < T) (h : (2 ^ 106 * T ≤ P ∧ 2 * EC ≤ 4 * T) ∨ (2 ^ 105 * T ≤ P ∧ 2 * EC ≤ 2 * T)) (hm : 2 * EM ≤ 2 * T) :
    2 ^ 103 * (2 * EC + 2 * EM + 3 * T) ≤ 2 * P - 2 ^ 56 * T := by omega

theorem mulK {K : Int} (hK : 0 < K) (x : Int) : ((x * K).natAbs : Int) = (x.natAbs : Int) * K := by
  rw [Int.natAbs_mul, Int.natCast_mul]
  congr 1
  omega

theorem ll_arith {xl yl I J T K : Int} (lx : 2 * (xl.natAbs : Int) ≤ I) (ly : 2 * (yl.natAbs : Int) ≤ J) (e : I * J = 2 * T * K) (hI : 0 ≤ I) : 2 * ((xl * yl).natAbs : Int) ≤ T * K := by
  have : (2 * (xl.natAbs : Int)) * (2 * (yl.natAbs : Int)) ≤ I * J := Int.mul_le_mul lx ly (by omega) hI
  rw [e] at this
  rw [Int.natAbs_mul, Int.natCast_mul]
  have e2 : 2 * (xl.natAbs : Int) * (2 * (yl.natAbs : Int)) = 4 * ((xl.natAbs : Int) * (yl.natAbs : Int)) := by grind
  rw [e2, Int.mul_assoc] at this
  omega

theorem b12_arith {A B T K : Int} {n m : Nat} (b1 : (n : Int) ≤ (A.natAbs : Int) * T * K) (b2 : (m : Int) ≤ (B.natAbs : Int) * T * K) (hA : A.natAbs ≤ 2 ^ 53) (hB : B.natAbs ≤ 2 ^ 53) (hTK : 0 < T * K) :
    (n : Int) + m ≤ 2 ^ 54 * (T * K) := by
  have : ((A.natAbs : Int) + B.natAbs) * (T * K) ≤ 2 ^ 54 * (T * K) := Int.mul_le_mul_of_nonneg_right (by omega) (by omega)
  rw [Int.add_mul] at this
  rw [Int.mul_assoc] at b1 b2
  omega

theorem end_arith (N1 N2 N3 N4 N5 N6 N7 N8 N9 N10 N11 N12 N13 : Nat) (TK : Int) (h0 : 0 < TK) (t1 : N1 ≤ N2 + N9) (t2 : N2 ≤ N3 + N8) (t3 : N3 ≤ N4 + N7) (t4 : N4 ≤ N5 + N6)
    (ar : 2 ^ 103 * (2 * (N5 : Int) + 2 * (N6 : Int) + 3 * TK) ≤ 2 * (N10 : Int) - 2 ^ 56 * TK) (u1 : (N10 : Int) ≤ N11 + N12 + N13 + N9) (b : (N12 : Int) + N13 ≤ 2 ^ 54 * TK)
    (r1 : 2 * (N7 : Int) ≤ TK) (r2 : 2 * (N8 : Int) ≤ TK) (r3 : 2 * (N9 : Int) ≤ TK) : 2 ^ 103 * N1 ≤ N11 := by omega

theorem mul_end {K T P xh xl yh yl ch cl p1 p2 mid c : Int} (hK : 0 < K) (hT : 0 < T) (hcl : cl * K = xh * yh - ch * K) (eP : xh * yh = P * K)
    (h : (2 ^ 106 * T ≤ (P.natAbs : Int) ∧ 2 * ((c - (cl + mid)).natAbs : Int) ≤ 4 * T) ∨ (2 ^ 105 * T ≤ (P.natAbs : Int) ∧ 2 * ((c - (cl + mid)).natAbs : Int) ≤ 2 * T))
    (hm : 2 * ((mid - (p1 + p2)).natAbs : Int) ≤ 2 * T) (r1 : 2 * ((p1 * K - xh * yl).natAbs : Int) ≤ T * K) (r2 : 2 * ((p2 * K - xl * yh).natAbs : Int) ≤ T * K)
    (ll : 2 * ((xl * yl).natAbs : Int) ≤ T * K) (b12 : ((xh * yl).natAbs : Int) + (xl * yh).natAbs ≤ 2 ^ 54 * (T * K)) :
    2 ^ 103 * ((ch + c) * K - (xh + xl) * (yh + yl)).natAbs ≤ ((xh + xl) * (yh + yl)).natAbs := by
  have ar := mul_arith T _ _ _ hT h hm
  have arK := Int.mul_le_mul_of_nonneg_right ar (Int.le_of_lt hK)
  have eE : (ch + c) * K - (xh + xl) * (yh + yl) = (c - (cl + mid)) * K + (mid - (p1 + p2)) * K + (p1 * K - xh * yl) + (p2 * K - xl * yh) - xl * yl := by
    have : (ch + c) * K - (xh + xl) * (yh + yl) = c * K - xh * yl - xl * yh - xl * yl - (xh * yh - ch * K) := by grind
    rw [this, ← hcl]
    grind
  rw [eE]
  have s3 : (P * K).natAbs ≤ ((xh + xl) * (yh + yl)).natAbs + (xh * yl).natAbs + (xl * yh).natAbs + (xl * yl).natAbs := by
    have e : P * K = (xh + xl) * (yh + yl) - xh * yl - xl * yh - xl * yl := by rw [← eP]; grind
    rw [e]
    exact Nat.le_trans (tri' _ _) (Nat.add_le_add_right (Nat.le_trans (tri' _ _) (Nat.add_le_add_right (tri' _ _) _)) _)
  have k1 : (2 ^ 103 * (2 * ((c - (cl + mid)).natAbs : Int) + 2 * ((mid - (p1 + p2)).natAbs : Int) + 3 * T)) * K = 2 ^ 103 * (2 * (((c - (cl + mid)) * K).natAbs : Int) + 2 * (((mid - (p1 + p2)) * K).natAbs : Int) + 3 * (T * K)) := by
    rw [mulK hK, mulK hK]; grind
  have k2 : (2 * (P.natAbs : Int) - 2 ^ 56 * T) * K = 2 * ((P * K).natAbs : Int) - 2 ^ 56 * (T * K) := by rw [mulK hK]; grind
  rw [k1, k2] at arK
  exact end_arith _ _ _ _ _ _ _ _ _ _ _ _ _ (T * K) (Int.mul_pos hT hK) (tri' _ _) (tri _ _) (tri _ _) (tri _ _) arK (by exact_mod_cast s3) b12 r1 r2 ll

theorem dd_mul {K xh xl yh yl ch cl p1 p2 mid c zh zl : Int} (H : MulSteps K xh xl yh yl ch cl p1 p2 mid c zh zl) {A B : Int} {i j t : Nat} (hx : Norm xh A i) (hy : Norm yh B j)
    (hK : K = 2 ^ 1074) (hij : i + j = 1075 + t) :
    zh + zl = ch + c ∧ 2 ^ 103 * ((zh + zl) * K - (xh + xl) * (yh + yl)).natAbs ≤ ((xh + xl) * (yh + yl)).natAbs ∧ ((ch + c).natAbs : Int) ≤ 2 ^ 108 * 2 ^ t := by
  obtain ⟨nx, ny, hch, hcl, hp1, hp2, hmid, hc, hz, ⟨z, hz1, hzl⟩⟩ := H
  have lx := lo_half hx nx
  have ly := lo_half hy ny
  obtain ⟨ex, x1, x2⟩ := hx
  obtain ⟨ey, y1, y2⟩ := hy
  have hKp : 0 < K := by rw [hK]; exact p2pos _
  have hT := p2pos t
  have hcast := natp2_cast t
  -- the places
  have eIJ : (2 : Int) ^ i * 2 ^ j = 2 * 2 ^ t * K := by
    rw [hK, ← Int.pow_add, hij, show 1075 + t = 1 + t + 1074 by omega, Int.pow_add, Int.pow_add]; rfl
  have eP : xh * yh = A * B * 2 * 2 ^ t * K := by
    rw [ex, ey]
    have : A * 2 ^ i * (B * 2 ^ j) = A * B * (2 ^ i * 2 ^ j) := by grind
    rw [this, eIJ]; grind
  have nP : Near (A * B * 2 * 2 ^ t) 1 ch := near_scale hKp (by rw [← eP]; exact hch)
  have ecl : cl = A * B * 2 * 2 ^ t - ch := by
    have : cl * K = (A * B * 2 * 2 ^ t - ch) * K := by rw [hcl, eP, Int.sub_mul]
    exact Int.eq_of_mul_eq_mul_right (by omega) this
  have absP : ((A * B * 2 * 2 ^ t).natAbs : Int) = ((A * B).natAbs : Int) * 2 * 2 ^ t := by
    rw [natAbs_mul_p2, Int.natAbs_mul, Int.natCast_mul, natp2_cast, Int.natCast_mul]; rfl
  have abAB : (A * B).natAbs = A.natAbs * B.natAbs := Int.natAbs_mul ..
  -- p1, p2
  have bound : ∀ (u v : Int) (X : Int) (k l : Nat), u = X * 2 ^ k → 2 * (v.natAbs : Int) ≤ 2 ^ l → k + l = 1075 + t → ((u * v).natAbs : Int) ≤ (X.natAbs : Int) * 2 ^ t * K := by
    intro u v X k l hu hv hkl
    have e1 : ((u * v).natAbs : Int) = (X.natAbs : Int) * 2 ^ k * (v.natAbs : Int) := by
      rw [hu, Int.natAbs_mul, natAbs_mul_p2, Int.natCast_mul, Int.natCast_mul, natp2_cast]
    have e2 : (2 : Int) ^ k * 2 ^ l = 2 * 2 ^ t * K := by
      rw [hK, ← Int.pow_add, hkl, show 1075 + t = 1 + t + 1074 by omega, Int.pow_add, Int.pow_add]; rfl
    have hX : 0 ≤ (X.natAbs : Int) * 2 ^ k := Int.mul_nonneg (by omega) (Int.le_of_lt (p2pos k))
    have e3 : (X.natAbs : Int) * 2 ^ k * (2 * (v.natAbs : Int)) ≤ (X.natAbs : Int) * 2 ^ k * 2 ^ l := Int.mul_le_mul_of_nonneg_left hv hX
    rw [Int.mul_assoc (X.natAbs : Int) (2 ^ k) (2 ^ l), e2] at e3
    rw [e1]
    have e4 : (X.natAbs : Int) * 2 ^ k * (2 * (v.natAbs : Int)) = 2 * ((X.natAbs : Int) * 2 ^ k * (v.natAbs : Int)) := by grind
    have e5 : (X.natAbs : Int) * (2 * 2 ^ t * K) = 2 * ((X.natAbs : Int) * 2 ^ t * K) := by grind
    rw [e4, e5] at e3
    omega
  have b1 := bound xh yl A i j ex ly hij
  have b2 : ((xl * yh).natAbs : Int) ≤ (B.natAbs : Int) * 2 ^ t * K := by
    rw [Int.mul_comm]
    exact bound yh xl B j i ey lx (by omega)
  have q1 := near_abs_le hKp hp1 (f := (A.natAbs : Int) * 2 ^ t) (rep_mul _ _ (by omega)) b1
  have q2 := near_abs_le hKp hp2 (f := (B.natAbs : Int) * 2 ^ t) (rep_mul _ _ (by omega)) b2
  have r1 := near_half hKp hp1 t (by
    have : (A.natAbs : Int) * 2 ^ t * K ≤ 2 ^ 53 * (2 ^ t * K) := by
      rw [Int.mul_assoc]; exact Int.mul_le_mul_of_nonneg_right (by omega) (Int.le_of_lt (Int.mul_pos hT hKp))
    omega)
  have r2 := near_half hKp hp2 t (by
    have : (B.natAbs : Int) * 2 ^ t * K ≤ 2 ^ 53 * (2 ^ t * K) := by
      rw [Int.mul_assoc]; exact Int.mul_le_mul_of_nonneg_right (by omega) (Int.le_of_lt (Int.mul_pos hT hKp))
    omega)
  have q12 : ((p1 + p2).natAbs : Int) ≤ ((A.natAbs : Int) + B.natAbs) * 2 ^ t := by
    have := tri p1 p2
    rw [Int.add_mul]
    omega
  -- mid
  have e1t : (2 : Int) ^ (t + 1) = 2 * 2 ^ t := by rw [Int.pow_succ, Int.mul_comm]
  have e2t : (2 : Int) ^ (t + 2) = 4 * 2 ^ t := by rw [show t + 2 = 2 + t by omega, Int.pow_add]; rfl
  have rm := near_half (by omega) hmid (t + 1) (by
    rw [e1t]
    have : ((A.natAbs : Int) + B.natAbs) * 2 ^ t ≤ 2 ^ 54 * 2 ^ t := Int.mul_le_mul_of_nonneg_right (by omega) (by omega)
    omega)
  rw [e1t] at rm
  have ab1 : 2 ^ 104 ≤ (A * B).natAbs := by
    rw [abAB]
    have : 2 ^ 52 * 2 ^ 52 ≤ A.natAbs * B.natAbs := Nat.mul_le_mul x1 y1
    omega
  have ab2 : (A * B).natAbs ≤ 2 ^ 106 := by
    rw [abAB]
    have : A.natAbs * B.natAbs ≤ 2 ^ 53 * 2 ^ 53 := Nat.mul_le_mul (by omega) (by omega)
    omega
  have e53t : (2 : Int) ^ (t + 53) = 2 ^ 53 * 2 ^ t := by rw [Nat.add_comm t 53, Int.pow_add]
  have e54t : (2 : Int) ^ (t + 54) = 2 ^ 54 * 2 ^ t := by rw [Nat.add_comm t 54, Int.pow_add]
  have clabs : (cl.natAbs : Int) = ((ch * 1 - A * B * 2 * 2 ^ t).natAbs : Int) := by rw [ecl]; omega
  have main : ((2 ^ 106 * 2 ^ t ≤ ((A * B * 2 * 2 ^ t).natAbs : Int) ∧ 2 * ((c - (cl + mid)).natAbs : Int) ≤ 4 * 2 ^ t) ∨
      (2 ^ 105 * 2 ^ t ≤ ((A * B * 2 * 2 ^ t).natAbs : Int) ∧ 2 * ((c - (cl + mid)).natAbs : Int) ≤ 2 * 2 ^ t)) ∧
      ((cl + mid).natAbs : Int) ≤ 2 ^ 55 * 2 ^ t ∧ (cl.natAbs : Int) ≤ 2 ^ 53 * 2 ^ t := by
    by_cases hbig : 2 ^ 105 ≤ (A * B).natAbs
    · have w1 : 2 ^ 106 * 2 ^ t ≤ ((A * B * 2 * 2 ^ t).natAbs : Int) := by
        rw [absP]; exact Int.mul_le_mul_of_nonneg_right (by omega) (by omega)
      have w2 := near_half (by omega) nP (t + 54) (by
        rw [e54t, absP]
        have : ((A * B).natAbs : Int) * 2 * 2 ^ t ≤ 2 ^ 107 * 2 ^ t := Int.mul_le_mul_of_nonneg_right (by omega) (by omega)
        omega)
      rw [e54t] at w2
      have w3 := near_abs_le (by omega) hmid (f := 2 ^ 53 * 2 ^ (t + 1)) (rep_mul _ _ (by decide)) (by
        rw [e1t]
        have : ((A.natAbs : Int) + B.natAbs) * 2 ^ t ≤ 2 ^ 54 * 2 ^ t := Int.mul_le_mul_of_nonneg_right (by omega) (by omega)
        omega)
      rw [e1t] at w3
      have w4 : ((cl + mid).natAbs : Int) ≤ 2 ^ 55 * 2 ^ t := by have := tri cl mid; omega
      have w5 := near_half (by omega) hc (t + 2) (by rw [e2t]; omega)
      rw [e2t] at w5
      exact ⟨Or.inl ⟨w1, by omega⟩, w4, by omega⟩
    · have w1 : 2 ^ 105 * 2 ^ t ≤ ((A * B * 2 * 2 ^ t).natAbs : Int) := by
        rw [absP]; exact Int.mul_le_mul_of_nonneg_right (by omega) (by omega)
      have w2 := near_half (by omega) nP (t + 53) (by
        rw [e53t, absP]
        have : ((A * B).natAbs : Int) * 2 * 2 ^ t ≤ 2 ^ 106 * 2 ^ t := Int.mul_le_mul_of_nonneg_right (by omega) (by omega)
        omega)
      rw [e53t] at w2
      have sumAB : A.natAbs + B.natAbs ≤ 3 * 2 ^ 52 := by
        rw [abAB] at hbig
        obtain ⟨u, hu⟩ := Nat.exists_eq_add_of_le x1
        obtain ⟨v, hv⟩ := Nat.exists_eq_add_of_le y1
        rw [hu, hv] at hbig ⊢
        have : (2 ^ 52 + u) * (2 ^ 52 + v) = 2 ^ 104 + 2 ^ 52 * u + 2 ^ 52 * v + u * v := by grind
        rw [this] at hbig
        have : 0 ≤ u * v := Nat.zero_le _
        omega
      have w3 := near_abs_le (by omega) hmid (f := 3 * 2 ^ (52 + t)) (rep_mul _ _ (by decide)) (by
        rw [Int.pow_add]
        have : ((A.natAbs : Int) + B.natAbs) * 2 ^ t ≤ (3 * 2 ^ 52) * 2 ^ t := Int.mul_le_mul_of_nonneg_right (by omega) (by omega)
        omega)
      rw [Int.pow_add] at w3
      have w4 : ((cl + mid).natAbs : Int) ≤ 2 ^ 54 * 2 ^ t := by have := tri cl mid; omega
      have w5 := near_half (by omega) hc (t + 1) (by rw [e1t]; omega)
      rw [e1t] at w5
      exact ⟨Or.inr ⟨w1, by omega⟩, by omega, by omega⟩
  obtain ⟨hmain, hcm, hclb⟩ := main
  have ar := mul_arith (2 ^ t) _ _ ((mid - (p1 + p2)).natAbs : Int) hT hmain (by omega)
  have hPhi : ((A * B * 2 * 2 ^ t).natAbs : Int) ≤ 2 ^ 107 * 2 ^ t := by
    rw [absP]; exact Int.mul_le_mul_of_nonneg_right (by omega) (by omega)
  have hPlo : 2 ^ 105 * 2 ^ t ≤ ((A * B * 2 * 2 ^ t).natAbs : Int) := by
    rw [absP]; exact Int.mul_le_mul_of_nonneg_right (by omega) (by omega)
  have hch2 : ((A * B * 2 * 2 ^ t).natAbs : Int) ≤ ch.natAbs + cl.natAbs ∧ (ch.natAbs : Int) ≤ ((A * B * 2 * 2 ^ t).natAbs : Int) + cl.natAbs := by
    have t1 := tri ch cl
    have t2 := tri' (A * B * 2 * 2 ^ t) cl
    rw [show ch + cl = A * B * 2 * 2 ^ t by omega] at t1
    rw [show A * B * 2 * 2 ^ t - cl = ch by omega] at t2
    omega
  have hcb : (c.natAbs : Int) ≤ 2 ^ 56 * 2 ^ t := by
    have := tri (cl + mid) (c - (cl + mid))
    rw [show cl + mid + (c - (cl + mid)) = c by omega] at this
    omega
  have ezl : zl = ch + c - zh := fast_exact2 hch.1 hc.1 hz hz1 hzl (rep_back hch.1 hc.1 hz (by omega))
  have ezz : zh + zl = ch + c := by omega
  refine ⟨ezz, ?_, by have := tri ch c; omega⟩
  rw [ezz]
  have ll : 2 * ((xl * yl).natAbs : Int) ≤ 2 ^ t * K := ll_arith lx ly eIJ (Int.le_of_lt (p2pos i))
  have b12 : ((xh * yl).natAbs : Int) + (xl * yh).natAbs ≤ 2 ^ 54 * (2 ^ t * K) := b12_arith b1 b2 (Nat.le_of_lt x2) (Nat.le_of_lt y2) (Int.mul_pos hT hKp)
  exact mul_end hKp hT hcl eP hmain (by simpa using rm) r1 r2 ll b12
end Go.Proofs.YgctacDoor.Fp
