namespace Go.Proofs.Ygctac.Fp

/-- A whole number of least units that the format has (no bound above). -/
def Rep (x : Int) : Prop := ∃ (m : Int) (e : Nat), m.natAbs < 2 ^ 53 ∧ x = m * 2 ^ e

theorem p2pos (e : Nat) : (0 : Int) < 2 ^ e := Int.pow_pos (by decide)

theorem rep_zero : Rep 0 := ⟨0, 0, by decide, by simp⟩

theorem rep_neg {x : Int} (h : Rep x) : Rep (-x) := by
  obtain ⟨m, e, hm, rfl⟩ := h
  exact ⟨-m, e, by simpa using hm, by rw [Int.neg_mul]⟩

theorem rep_mul (m : Int) (k : Nat) (h : m.natAbs ≤ 2 ^ 53) : Rep (m * 2 ^ k) := by
  by_cases h1 : m.natAbs < 2 ^ 53
  · exact ⟨m, k, h1, rfl⟩
  · have : m = 2 ^ 53 ∨ m = -2 ^ 53 := by omega
    rcases this with rfl | rfl
    · exact ⟨2 ^ 52, k + 1, by decide, by rw [Int.pow_succ]; omega⟩
    · exact ⟨-2 ^ 52, k + 1, by decide, by rw [Int.pow_succ]; omega⟩

theorem natAbs_mul_p2 (m : Int) (k : Nat) : (m * 2 ^ k).natAbs = m.natAbs * 2 ^ k := by
  rw [Int.natAbs_mul, Int.natAbs_pow]; rfl

theorem rep_of_dvd {x : Int} (k : Nat) (h : (2 : Int) ^ k ∣ x) (hx : x.natAbs ≤ 2 ^ 53 * 2 ^ k) : Rep x := by
  obtain ⟨c, rfl⟩ := h
  rw [Int.mul_comm]
  refine rep_mul c k ?_
  rw [Int.mul_comm, natAbs_mul_p2] at hx
  exact Nat.le_of_mul_le_mul_right hx (Nat.two_pow_pos k)

theorem rep_small {x : Int} (hx : x.natAbs ≤ 2 ^ 53) : Rep x :=
  rep_of_dvd 0 (by simp) (by simpa using hx)

/-- The least place: every 'Rep' has one at which it is whole, and it is at least half full or the place is the least. -/
theorem rep_canon {x : Int} (h : Rep x) (h0 : x ≠ 0) : ∃ e : Nat, (2 : Int) ^ e ∣ x ∧ x.natAbs < 2 ^ 53 * 2 ^ e ∧ (e = 0 ∨ 2 ^ 52 * 2 ^ e ≤ x.natAbs) := by
  obtain ⟨m, e, hm, rfl⟩ := h
  induction e generalizing m with
  | zero => exact ⟨0, by simp, by simpa using hm, Or.inl rfl⟩
  | succ e ih =>
    by_cases hb : m.natAbs < 2 ^ 52
    · have := ih (m := m * 2) (by omega) (by rw [Int.pow_succ] at h0; intro h; apply h0; rw [← h]; rw [Int.mul_assoc, Int.mul_comm 2, ])
      rwa [Int.mul_assoc, Int.mul_comm 2, ← Int.pow_succ] at this
    · refine ⟨e + 1, Int.dvd_mul_left .., ?_, Or.inr ?_⟩
      · rw [natAbs_mul_p2]; exact Nat.mul_lt_mul_of_pos_right hm (Nat.two_pow_pos _)
      · rw [natAbs_mul_p2]; exact Nat.mul_le_mul_right _ (by omega)

/-- 'x' is a number of the format that lies nearest to 'n / d' ('d' positive). -/
def Near (n d x : Int) : Prop := Rep x ∧ ∀ f, Rep f → (x * d - n).natAbs ≤ (f * d - n).natAbs

theorem Near.neg {n d x : Int} (h : Near n d x) : Near (-n) d (-x) := by
  refine ⟨rep_neg h.1, fun f hf => ?_⟩
  have := h.2 (-f) (rep_neg hf)
  rw [Int.neg_mul] at this ⊢
  omega

theorem near_of_near_neg {n d x : Int} (h : Near (-n) d (-x)) : Near n d x := by
  have := h.neg; simpa using this

theorem near_exact {n x : Int} (h : Near n 1 x) (hn : Rep n) : x = n := by
  have := h.2 n hn; omega

theorem near_exact' {n d x : Int} (hd : 0 < d) (h : Near (n * d) d x) (hn : Rep n) : x = n := by
  have h1 := h.2 n hn
  have h2 : x * d = n * d := by omega
  exact Int.eq_of_mul_eq_mul_right (by omega) h2


theorem p2_le {a b : Nat} (h : a ≤ b) : (2 : Int) ^ a ≤ 2 ^ b := by
  obtain ⟨c, rfl⟩ := Nat.exists_eq_add_of_le h
  rw [Int.pow_add]
  have h1 := p2pos a
  have h2 := p2pos c
  have : (2 : Int) ^ a * 1 ≤ 2 ^ a * 2 ^ c := Int.mul_le_mul_of_nonneg_left (by omega) (by omega)
  omega

theorem p2_dvd {a b : Nat} (h : a ≤ b) : (2 : Int) ^ a ∣ 2 ^ b := by
  obtain ⟨c, rfl⟩ := Nat.exists_eq_add_of_le h
  rw [Int.pow_add]; exact Int.dvd_mul_right ..

theorem natp2_cast (k : Nat) : ((2 ^ k : Nat) : Int) = 2 ^ k := by rw [Int.natCast_pow]; rfl

/-- Half a unit of place k, where the number has at most 53 digits above it. -/
theorem near_half {n d x : Int} (hd : 0 < d) (h : Near n d x) (k : Nat) (hn : (n.natAbs : Int) ≤ 2 ^ 53 * (2 ^ k * d)) :
    2 * ((x * d - n).natAbs : Int) ≤ 2 ^ k * d := by
  have hg : (0 : Int) < 2 ^ k * d := Int.mul_pos (p2pos k) hd
  have key : ∃ c : Int, c.natAbs ≤ 2 ^ 53 ∧ 2 * ((c * (2 ^ k * d) - n).natAbs : Int) ≤ 2 ^ k * d := by
    generalize 2 ^ k * d = g at *
    have e1 := Int.mul_ediv_add_emod (2 * n + g) (2 * g)
    have e2 := Int.emod_nonneg (2 * n + g) (b := 2 * g) (by omega)
    have e3 := Int.emod_lt_of_pos (2 * n + g) (b := 2 * g) (by omega)
    generalize (2 * n + g) / (2 * g) = c at *
    generalize (2 * n + g) % (2 * g) = r at *
    refine ⟨c, ?_, ?_⟩
    · rw [Int.mul_assoc] at e1
      have hc1 : c ≤ 2 ^ 53 := by
        rcases Int.lt_or_le (2 ^ 53) c with hh | hh
        · have : g * (2 ^ 53 + 1) ≤ g * c := Int.mul_le_mul_of_nonneg_left (by omega) (by omega)
          omega
        · exact hh
      have hc2 : -2 ^ 53 ≤ c := by
        rcases Int.lt_or_le c (-2 ^ 53) with hh | hh
        · have : g * c ≤ g * (-2 ^ 53 - 1) := Int.mul_le_mul_of_nonneg_left (by omega) (by omega)
          omega
        · exact hh
      omega
    · rw [Int.mul_comm c g]
      rw [Int.mul_assoc] at e1
      omega
  obtain ⟨c, hc, hb⟩ := key
  have := h.2 (c * 2 ^ k) (rep_mul c k hc)
  rw [Int.mul_assoc] at this
  omega

theorem near_ge {n d x f : Int} (hd : 0 < d) (h : Near n d x) (hf : Rep f) (hn : f * d ≤ n) : f ≤ x := by
  rcases Int.lt_or_le x f with hh | hh
  · have h1 := h.2 f hf
    have : x * d < f * d := Int.mul_lt_mul_of_pos_right hh hd
    omega
  · exact hh

theorem near_le {n d x f : Int} (hd : 0 < d) (h : Near n d x) (hf : Rep f) (hn : n ≤ f * d) : x ≤ f := by
  rcases Int.lt_or_le f x with hh | hh
  · have h1 := h.2 f hf
    have : f * d < x * d := Int.mul_lt_mul_of_pos_right hh hd
    omega
  · exact hh

theorem rep_p2 (k : Nat) : Rep (2 ^ k) := by
  have := rep_mul 1 k (by decide)
  simpa using this

theorem near_abs_le {n d x f : Int} (hd : 0 < d) (h : Near n d x) (hf : Rep f) (hn : (n.natAbs : Int) ≤ f * d) : (x.natAbs : Int) ≤ f := by
  have h1 := near_le hd h hf (by omega)
  have h2 := near_ge hd h (rep_neg hf) (by rw [Int.neg_mul]; omega)
  omega

theorem near_abs_ge {n d x f : Int} (hd : 0 < d) (h : Near n d x) (hf : Rep f) (hn : f * d ≤ (n.natAbs : Int)) : f ≤ (x.natAbs : Int) := by
  rcases Int.le_total 0 n with h0 | h0
  · have h1 := near_ge hd h hf (by omega)
    omega
  · have h1 := near_le hd h (rep_neg hf) (by rw [Int.neg_mul]; omega)
    omega

/-- From 53 digits on the result is whole at the place. -/
theorem near_up {n d x : Int} (hd : 0 < d) (h : Near n d x) (k : Nat) (hn : 2 ^ 52 * 2 ^ k * d ≤ (n.natAbs : Int)) : (2 : Int) ^ k ∣ x := by
  have h3 := near_abs_ge hd h (f := 2 ^ 52 * 2 ^ k) (rep_mul (2 ^ 52) k (by decide)) hn
  obtain ⟨m, e, hm, rfl⟩ := h.1
  rcases Nat.lt_or_ge e k with hh | hh
  · exfalso
    have h2 := p2_le (a := e + 1) (b := k) hh
    rw [Int.pow_succ] at h2
    rw [natAbs_mul_p2] at h3
    have h5 : (m.natAbs : Int) * 2 ^ e < 2 ^ 53 * 2 ^ e := Int.mul_lt_mul_of_pos_right (by omega) (p2pos e)
    rw [Int.natCast_mul, natp2_cast] at h3
    omega
  · exact Int.dvd_trans (p2_dvd hh) (Int.dvd_mul_left ..)

/-- A whole number at a place stays whole there. -/
theorem near_dvd {n x : Int} (h : Near n 1 x) (k : Nat) (hk : (2 : Int) ^ k ∣ n) : (2 : Int) ^ k ∣ x := by
  by_cases hn : n.natAbs ≤ 2 ^ 53 * 2 ^ k
  · have := near_exact h (rep_of_dvd k hk hn)
    rwa [this]
  · have hp : ((2 ^ 53 * 2 ^ k : Nat) : Int) = 2 ^ 53 * 2 ^ k := by rw [Int.natCast_mul, natp2_cast, natp2_cast]
    exact near_up (by omega) h k (by have := p2pos k; omega)

theorem exists_place {n d : Int} (hd : 0 < d) (hn : 2 ^ 52 * d ≤ (n.natAbs : Int)) :
    ∃ k : Nat, 2 ^ 52 * (2 ^ k * d) ≤ (n.natAbs : Int) ∧ (n.natAbs : Int) < 2 ^ 53 * (2 ^ k * d) := by
  have : ∀ j : Nat, (n.natAbs : Int) < 2 ^ 53 * (2 ^ j * d) → ∃ k : Nat, 2 ^ 52 * (2 ^ k * d) ≤ (n.natAbs : Int) ∧ (n.natAbs : Int) < 2 ^ 53 * (2 ^ k * d) := by
    intro j
    induction j with
    | zero => intro h; exact ⟨0, by simpa using hn, h⟩
    | succ j ih =>
      intro h
      by_cases hb : (n.natAbs : Int) < 2 ^ 53 * (2 ^ j * d)
      · exact ih hb
      · refine ⟨j + 1, ?_, h⟩
        have e : (2 : Int) ^ (j + 1) * d = 2 * (2 ^ j * d) := by rw [Int.pow_succ, Int.mul_assoc, Int.mul_left_comm]
        rw [e] at h ⊢
        omega
  refine this n.natAbs ?_
  have h1 : n.natAbs < 2 ^ n.natAbs := Nat.lt_two_pow_self
  have h2 : (n.natAbs : Int) < 2 ^ n.natAbs := by rw [← natp2_cast]; omega
  have h3 : (2 : Int) ^ n.natAbs * 1 ≤ 2 ^ n.natAbs * d := Int.mul_le_mul_of_nonneg_left (by omega) (by omega)
  omega

/-- The relative error: against the number and against the result. -/
theorem near_rel {n d x : Int} (hd : 0 < d) (h : Near n d x) (hn : 2 ^ 52 * d ≤ (n.natAbs : Int)) :
    2 ^ 53 * ((x * d - n).natAbs : Int) ≤ (n.natAbs : Int) ∧ 2 ^ 53 * ((x * d - n).natAbs : Int) ≤ (x.natAbs : Int) * d := by
  obtain ⟨k, h1, h2⟩ := exists_place hd hn
  have h3 := near_half hd h k (by omega)
  have h4 := near_abs_ge hd h (f := 2 ^ 52 * 2 ^ k) (rep_mul (2 ^ 52) k (by decide)) (by rw [Int.mul_assoc]; exact h1)
  have h5 : 2 ^ 52 * 2 ^ k * d ≤ (x.natAbs : Int) * d := Int.mul_le_mul_of_nonneg_right h4 (by omega)
  rw [Int.mul_assoc] at h5
  omega

theorem near_rel1 {n x : Int} (h : Near n 1 x) :
    2 ^ 53 * ((x - n).natAbs : Int) ≤ (n.natAbs : Int) ∧ 2 ^ 53 * ((x - n).natAbs : Int) ≤ (x.natAbs : Int) := by
  by_cases hn : 2 ^ 52 * (1 : Int) ≤ (n.natAbs : Int)
  · simpa using near_rel (by omega) h hn
  · have := near_exact h (rep_small (by omega))
    subst this
    omega

/-- Sterbenz, in the shape that serves: the difference is no greater than either. -/
theorem rep_sub {x y : Int} (hx : Rep x) (hy : Rep y) (h1 : (x - y).natAbs ≤ x.natAbs) (h2 : (x - y).natAbs ≤ y.natAbs) : Rep (x - y) := by
  obtain ⟨m, e, hm, rfl⟩ := hx
  obtain ⟨m', e', hm', rfl⟩ := hy
  rw [natAbs_mul_p2] at h1 h2
  have a1 : m.natAbs * 2 ^ e ≤ 2 ^ 53 * 2 ^ e := Nat.mul_le_mul_right _ (by omega)
  have a2 : m'.natAbs * 2 ^ e' ≤ 2 ^ 53 * 2 ^ e' := Nat.mul_le_mul_right _ (by omega)
  rcases Nat.le_total e e' with hh | hh
  · exact rep_of_dvd e (Int.dvd_sub (Int.dvd_mul_left ..) (Int.dvd_trans (p2_dvd hh) (Int.dvd_mul_left ..))) (by omega)
  · exact rep_of_dvd e' (Int.dvd_sub (Int.dvd_trans (p2_dvd hh) (Int.dvd_mul_left ..)) (Int.dvd_mul_left ..)) (by omega)

/-- The error of a sum is a number of the format. -/
theorem rep_err {a b s : Int} (ha : Rep a) (hb : Rep b) (h : Near (a + b) 1 s) : Rep (a + b - s) := by
  have q1 := h.2 a ha
  have q2 := h.2 b hb
  have hs := near_dvd h
  obtain ⟨m, e, hm, ea⟩ := ha
  obtain ⟨m', e', hm', eb⟩ := hb
  have a1 : m.natAbs * 2 ^ e ≤ 2 ^ 53 * 2 ^ e := Nat.mul_le_mul_right _ (by omega)
  have a2 : m'.natAbs * 2 ^ e' ≤ 2 ^ 53 * 2 ^ e' := Nat.mul_le_mul_right _ (by omega)
  have n1 := natAbs_mul_p2 m e
  have n2 := natAbs_mul_p2 m' e'
  rw [← ea] at n1
  rw [← eb] at n2
  rcases Nat.le_total e e' with hh | hh
  · have d1 : (2 : Int) ^ e ∣ a + b := by rw [ea, eb]; exact Int.dvd_add (Int.dvd_mul_left ..) (Int.dvd_trans (p2_dvd hh) (Int.dvd_mul_left ..))
    exact rep_of_dvd e (Int.dvd_sub d1 (hs e d1)) (by omega)
  · have d1 : (2 : Int) ^ e' ∣ a + b := by rw [ea, eb]; exact Int.dvd_add (Int.dvd_trans (p2_dvd hh) (Int.dvd_mul_left ..)) (Int.dvd_mul_left ..)
    exact rep_of_dvd e' (Int.dvd_sub d1 (hs e' d1)) (by omega)

theorem rep_double {x : Int} (h : Rep x) : Rep (2 * x) := by
  obtain ⟨m, e, hm, rfl⟩ := h
  exact ⟨m, e + 1, hm, by rw [Int.pow_succ, Int.mul_left_comm, Int.mul_comm 2]⟩

theorem rep_abs {x : Int} (h : Rep x) : Rep (x.natAbs : Int) := by
  rcases Int.natAbs_eq x with hh | hh
  · rwa [← hh]
  · have := rep_neg h
    rwa [show -x = (x.natAbs : Int) by omega] at this

theorem rep_half {x : Int} (h : Rep x) (hx : 2 ^ 53 < x.natAbs) : ∃ y, Rep y ∧ x = 2 * y := by
  obtain ⟨m, e, hm, rfl⟩ := h
  cases e with
  | zero => simp at hx; omega
  | succ e => exact ⟨m * 2 ^ e, ⟨m, e, hm, rfl⟩, by rw [Int.pow_succ, ← Int.mul_assoc, Int.mul_comm 2]⟩

/-- Dekker: 's - a' is exact where b is no greater than a. -/
theorem rep_back {a b s : Int} (ha : Rep a) (hb : Rep b) (h : Near (a + b) 1 s) (hab : b.natAbs ≤ a.natAbs) : Rep (s - a) := by
  by_cases hx : Rep (a + b)
  · rw [near_exact h hx]; have : a + b - a = b := by omega
    rwa [this]
  · -- not exact: then b is less than half of a, or of its sign
    have hst : ¬ ((a + b).natAbs ≤ b.natAbs) := by
      intro hc
      apply hx
      have := rep_sub ha (rep_neg hb) (by have : a - -b = a + b := by omega
                                          rw [this]; omega) (by have : a - -b = a + b := by omega
                                                                rw [this]; omega)
      have e : a - -b = a + b := by omega
      rwa [e] at this
    have q0 : ¬ (a + b).natAbs ≤ 2 ^ 53 := fun hc => hx (rep_small hc)
    have q1 := h.2 a ha
    have q2 := h.2 b hb
    have q3 := near_abs_le (by omega) h (rep_double (rep_abs ha)) (by omega)
    rcases Nat.lt_or_ge (a + b).natAbs a.natAbs with hlt | hge
    · obtain ⟨y, hy, ey⟩ := rep_half ha (by omega)
      have q4 := near_abs_ge (by omega) h (rep_abs hy) (by omega)
      refine rep_sub h.1 ha ?_ ?_ <;> omega
    · have q4 := near_abs_ge (by omega) h (rep_abs ha) (by omega)
      refine rep_sub h.1 ha ?_ ?_ <;> omega

theorem fast_exact {a b s z e : Int} (ha : Rep a) (hb : Rep b) (h : Near (a + b) 1 s) (hab : b.natAbs ≤ a.natAbs)
    (hz : Near (s - a) 1 z) (he : Near (b - z) 1 e) : z = s - a ∧ e = a + b - s := by
  have e1 := near_exact hz (rep_back ha hb h hab)
  subst e1
  have e2 : b - (s - a) = a + b - s := by omega
  rw [e2] at he
  exact ⟨rfl, near_exact he (rep_err ha hb h)⟩

/-- Knuth's sum: the second result is the error, exactly. -/
theorem two_sum {a b s bb aa db da e : Int} (ha : Rep a) (hb : Rep b) (hs : Near (a + b) 1 s) (hbb : Near (s - a) 1 bb)
    (haa : Near (s - bb) 1 aa) (hdb : Near (b - bb) 1 db) (hda : Near (a - aa) 1 da) (he : Near (da + db) 1 e) : e = a + b - s := by
  rcases Nat.le_total b.natAbs a.natAbs with hab | hab
  · obtain ⟨e1, e2⟩ := fast_exact ha hb hs hab hbb hdb
    subst e1 e2
    have e3 : s - (s - a) = a := by omega
    rw [e3] at haa
    have e4 := near_exact haa ha
    subst e4
    have e5 := near_exact hda (by simpa using rep_zero)
    subst e5
    have e6 : aa - aa + (aa + b - s) = aa + b - s := by omega
    rw [e6] at he
    exact near_exact he (rep_err ha hb hs)
  · rcases Nat.lt_or_ge s.natAbs a.natAbs with hlt | hge
    · -- the sum is exact
      have hx : Rep (a + b) := by
        have q1 : ¬ a.natAbs ≤ (a + b).natAbs := by
          intro hc
          have := near_abs_ge (by omega) hs (rep_abs ha) (by omega)
          omega
        have e : a - -b = a + b := by omega
        have := rep_sub ha (rep_neg hb) (by rw [e]; omega) (by rw [e]; omega)
        rwa [e] at this
      have e1 := near_exact hs hx
      subst e1
      have e2 : a + b - a = b := by omega
      rw [e2] at hbb
      have e3 := near_exact hbb hb
      subst e3
      have e4 : a + bb - bb = a := by omega
      rw [e4] at haa
      have e5 := near_exact haa ha
      subst e5
      have e6 := near_exact hdb (by simpa using rep_zero)
      have e7 := near_exact hda (by simpa using rep_zero)
      subst e6 e7
      have e8 := near_exact he (by simpa using rep_zero)
      omega
    · have q1 := near_rel1 hs
      have f := fast_exact (a := s) (b := -a) (s := bb) (z := -aa) (e := -da) hs.1 (rep_neg ha) (by rw [show s + -a = s - a by omega]; exact hbb) (by omega)
        (by rw [show bb - s = -(s - bb) by omega]; exact haa.neg) (by rw [show -a - -aa = -(a - aa) by omega]; exact hda.neg)
      have q2 := near_rel1 hbb
      have hdbx : Rep (b - bb) := rep_sub hb hbb.1 (by omega) (by omega)
      have e1 := near_exact hdb hdbx
      subst e1
      have e2 : da + (b - bb) = a + b - s := by omega
      rw [e2] at he
      exact near_exact he (rep_err ha hb hs)

end Go.Proofs.Ygctac.Fp
