/-
  Shewchuk's growing sum over numbers: partials that do not overlap stay so; their sum is kept; their sizes stay bounded.
-/
import Derived.Test.YgctacFpC
namespace Go.Proofs.Ygctac.Fp

/-- 'p' ends below the lowest 1 of 'q'. -/
def Sep (p q : Int) : Prop := ∃ k : Nat, (2 : Int) ^ k ∣ q ∧ (p.natAbs : Int) < 2 ^ k
/-- Each is apart from all behind it. -/
def Exps : List Int → Prop
  | [] => True
  | p :: ps => (∀ q ∈ ps, Sep p q) ∧ Exps ps

theorem exps_append : ∀ {l m : List Int}, Exps (l ++ m) ↔ Exps l ∧ Exps m ∧ ∀ p ∈ l, ∀ q ∈ m, Sep p q
  | [], m => by simp [Exps]
  | a :: l, m => by
    simp only [List.cons_append, Exps, exps_append (l := l), List.mem_append, List.mem_cons]
    constructor
    · rintro ⟨h1, h2, h3, h4⟩
      exact ⟨⟨fun q hq => h1 q (.inl hq), h2⟩, h3, fun p hp q hq => by
        rcases hp with rfl | hp
        · exact h1 q (.inr hq)
        · exact h4 p hp q hq⟩
    · rintro ⟨⟨h1, h2⟩, h3, h4⟩
      exact ⟨fun q hq => hq.elim (h1 q) (h4 a (.inl rfl) q), h2, h3, fun p hp q hq => h4 p (.inr hp) q hq⟩

theorem sep_min {h x p : Int} (h1 : Sep h x) (h2 : Sep h p) : ∃ k : Nat, (2 : Int) ^ k ∣ x + p ∧ (h.natAbs : Int) < 2 ^ k := by
  obtain ⟨k1, d1, l1⟩ := h1
  obtain ⟨k2, d2, l2⟩ := h2
  rcases Nat.le_total k1 k2 with c | c
  · exact ⟨k1, Int.dvd_add d1 (Int.dvd_trans (p2_dvd c) d2), l1⟩
  · exact ⟨k2, Int.dvd_add (Int.dvd_trans (p2_dvd c) d1) d2, l2⟩
theorem sep_sum {h x p s : Int} (h1 : Sep h x) (h2 : Sep h p) (hs : Near (x + p) 1 s) : Sep h s ∧ Sep h (x + p - s) := by
  obtain ⟨k, hd, hl⟩ := sep_min h1 h2
  exact ⟨⟨k, near_dvd hs k hd, hl⟩, ⟨k, Int.dvd_sub hd (near_dvd hs k hd), hl⟩⟩
theorem err_le {x p s : Int} (hx : Rep x) (hs : Near (x + p) 1 s) : (x + p - s).natAbs ≤ p.natAbs := by
  have := hs.2 x hx
  omega
theorem sep_of_le {e p q : Int} (h : Sep p q) (he : e.natAbs ≤ p.natAbs) : Sep e q := by
  obtain ⟨k, hd, hl⟩ := h
  exact ⟨k, hd, by omega⟩
theorem sep_err {x p s : Int} (hs : Near (x + p) 1 s) : Sep (x + p - s) s := by
  by_cases h0 : s = 0
  · subst h0
    refine ⟨(x + p - 0).natAbs, Int.dvd_zero _, ?_⟩
    have := Nat.lt_two_pow_self (n := (x + p - 0).natAbs)
    rw [← natp2_cast]
    omega
  · obtain ⟨e, hd, hlt, -⟩ := rep_canon hs.1 h0
    refine ⟨e, hd, ?_⟩
    have hlt' : (s.natAbs : Int) < 2 ^ 53 * 2 ^ e := by
      rw [← natp2_cast e]
      have : ((2 ^ 53 * 2 ^ e : Nat) : Int) = 2 ^ 53 * ((2 ^ e : Nat) : Int) := by simp
      omega
    have hn : ((x + p).natAbs : Int) ≤ 2 ^ 53 * (2 ^ e * 1) := by
      rcases Int.lt_or_le (2 ^ 53 * (2 ^ e * 1)) ((x + p).natAbs : Int) with c | c
      · have hf : Rep (2 ^ 53 * 2 ^ e) := rep_mul (2 ^ 53) e (by decide)
        have := near_abs_ge (by decide) hs hf (by omega)
        omega
      · exact c
    have := near_half (by decide) hs e hn
    have hp := p2pos e
    omega

/-- Sum and size of a list of numbers. -/
def tot : List Int → Int
  | [] => 0
  | p :: ps => p + tot ps
def siz : List Int → Int
  | [] => 0
  | p :: ps => p.natAbs + siz ps
theorem tot_append : ∀ (l m : List Int), tot (l ++ m) = tot l + tot m
  | [], m => by simp [tot]
  | a :: l, m => by simp only [List.cons_append, tot, tot_append l m]; omega
theorem siz_append : ∀ (l m : List Int), siz (l ++ m) = siz l + siz m
  | [], m => by simp [siz]
  | a :: l, m => by simp only [List.cons_append, siz, siz_append l m]; omega
theorem siz_nonneg : ∀ l : List Int, 0 ≤ siz l
  | [] => by simp [siz]
  | a :: l => by have := siz_nonneg l; simp only [siz]; omega
theorem tot_le_siz : ∀ l : List Int, ((tot l).natAbs : Int) ≤ siz l
  | [] => by simp [siz, tot]
  | a :: l => by have := tot_le_siz l; simp only [siz, tot]; omega
theorem siz_le_of {D : Int} : ∀ l : List Int, (∀ e ∈ l, (e.natAbs : Int) ≤ D) → siz l ≤ l.length * D
  | [], _ => by simp [siz]
  | a :: l, h => by
    have h1 := siz_le_of l fun e he => h e (List.mem_cons_of_mem _ he)
    have h2 := h a (List.mem_cons_self)
    have h3 : ((a :: l).length : Int) * D = l.length * D + D := by
      rw [List.length_cons, Int.natCast_add, Int.add_mul]
      simp
    simp only [siz]
    omega

/-- A growing sum in the midst of its round: the errors kept, the running sum, the partials still to come; 'G' bounds the running sum, '2 * D' is one part in 2^53 of it. -/
structure Grow (es : List Int) (x : Int) (rest : List Int) (T G D : Int) : Prop where
  sep : Exps (es ++ rest)
  run : ∀ e ∈ es, Sep e x
  rep : ∀ e ∈ es ++ rest, Rep e
  repx : Rep x
  nz : ∀ e ∈ es ++ rest, e ≠ 0
  sum : tot es + x + tot rest = T
  bnd : (x.natAbs : Int) + 2 * siz rest ≤ G
  small : ∀ e ∈ es, (e.natAbs : Int) ≤ D

theorem Grow.step {es rest : List Int} {x p s T G D : Int} (h : Grow es x (p :: rest) T G D) (hs : Near (x + p) 1 s) (k : Nat) (hG : G ≤ 2 ^ 53 * 2 ^ k) (hD : 2 ^ k ≤ 2 * D) :
    Grow (if x + p - s = 0 then es else es ++ [x + p - s]) s rest T G D := by
  have hsep := exps_append.1 h.sep
  obtain ⟨h1, ⟨h2, h3⟩, h4⟩ := hsep
  have hp : Rep p := h.rep p (by simp)
  have hb : ((x + p).natAbs : Int) ≤ 2 ^ 53 * (2 ^ k * 1) := by
    have := h.bnd
    have h0 := siz_nonneg rest
    simp only [siz] at this
    omega
  have herr := near_half (by decide) hs k hb
  have hle := err_le h.repx hs
  have hbnd : (s.natAbs : Int) + 2 * siz rest ≤ G := by
    have := h.bnd
    simp only [siz] at this
    omega
  have hold : ∀ e ∈ es, Sep e s ∧ Sep e (x + p - s) := fun e he => sep_sum (h.run e he) (h4 e he p (List.mem_cons_self)) hs
  split
  · rename_i h0
    refine ⟨exps_append.2 ⟨h1, h3, fun e he q hq => h4 e he q (List.mem_cons_of_mem _ hq)⟩, fun e he => (hold e he).1, fun e he => h.rep e ?_, hs.1, fun e he => h.nz e ?_, ?_, hbnd, h.small⟩
    · simp only [List.mem_append, List.mem_cons] at he ⊢
      rcases he with he | he
      · exact .inl he
      · exact .inr (.inr he)
    · simp only [List.mem_append, List.mem_cons] at he ⊢
      rcases he with he | he
      · exact .inl he
      · exact .inr (.inr he)
    · have := h.sum
      simp only [tot] at this
      omega
  · rename_i h0
    have hnew : ∀ q ∈ rest, Sep (x + p - s) q := fun q hq => sep_of_le (h2 q hq) hle
    have hrep : Rep (x + p - s) := rep_err h.repx hp hs
    refine ⟨exps_append.2 ⟨exps_append.2 ⟨h1, ⟨by simp, trivial⟩, fun e he q hq => ?_⟩, h3, fun e he q hq => ?_⟩, fun e he => ?_, fun e he => ?_, hs.1, fun e he => ?_, ?_, hbnd, fun e he => ?_⟩
    · obtain rfl := List.mem_singleton.1 hq
      exact (hold e he).2
    · rcases List.mem_append.1 he with he | he
      · exact h4 e he q (List.mem_cons_of_mem _ hq)
      · obtain rfl := List.mem_singleton.1 he
        exact hnew q hq
    · rcases List.mem_append.1 he with he | he
      · exact (hold e he).1
      · obtain rfl := List.mem_singleton.1 he
        exact sep_err hs
    · simp only [List.mem_append, List.mem_singleton] at he
      rcases he with (he | rfl) | he
      · exact h.rep e (by simp [he])
      · exact hrep
      · exact h.rep e (by simp [he])
    · simp only [List.mem_append, List.mem_singleton] at he
      rcases he with (he | rfl) | he
      · exact h.nz e (by simp [he])
      · exact h0
      · exact h.nz e (by simp [he])
    · have := h.sum
      simp only [tot, tot_append] at this ⊢
      omega
    · rcases List.mem_append.1 he with he | he
      · exact h.small e he
      · obtain rfl := List.mem_singleton.1 he
        omega

/-- The state between two rounds: 'N' terms taken, each at most 'U'. -/
structure Parts (N : Nat) (U : Int) (ps : List Int) : Prop where
  sep : Exps ps
  rep : ∀ e ∈ ps, Rep e
  nz : ∀ e ∈ ps, e ≠ 0
  sum : ((tot ps).natAbs : Int) ≤ N * U
  size : siz ps ≤ N * (2 * U)
  len : ps.length ≤ N

theorem Parts.enter {N : Nat} {U x G D : Int} {ps : List Int} (h : Parts N U ps) (hx : Rep x) (hU : (x.natAbs : Int) ≤ U) (hG : U + 2 * (N * (2 * U)) ≤ G) : Grow [] x ps (x + tot ps) G D := by
  refine ⟨h.sep, by simp, h.rep, hx, h.nz, by simp [tot], ?_, by simp⟩
  have := h.size
  omega
theorem Parts.leave {N : Nat} {U x T G D : Int} {es : List Int} (h : Grow es x [] T G D) (hT : (T.natAbs : Int) ≤ (N + 1 : Nat) * U) (hl : es.length ≤ N) (hD0 : 0 ≤ D) (hD : 2 * (N * D) ≤ U) (hU : 0 ≤ U) :
    Parts (N + 1) U (if x = 0 then es else es ++ [x]) := by
  have hsep := h.sep
  rw [List.append_nil] at hsep
  have hrep := h.rep
  rw [List.append_nil] at hrep
  have hnz := h.nz
  rw [List.append_nil] at hnz
  have hsum := h.sum
  simp only [tot] at hsum
  have hsz := siz_le_of es h.small
  have hDl : (es.length : Int) * D ≤ N * D := Int.mul_le_mul_of_nonneg_right (by omega) hD0
  have ht := tot_le_siz es
  have hN1 : ((N + 1 : Nat) : Int) * (2 * U) = 2 * (((N + 1 : Nat) : Int) * U) := by rw [Int.mul_left_comm]
  have hNU : U ≤ ((N + 1 : Nat) : Int) * U := by
    have : ((N + 1 : Nat) : Int) * U = N * U + U := by rw [Int.natCast_add, Int.add_mul]; simp
    have := Int.mul_nonneg (Int.natCast_nonneg N) hU
    omega
  split
  · rename_i h0
    subst h0
    exact ⟨hsep, hrep, hnz, by rw [show tot es = T by omega]; exact hT, by omega, by omega⟩
  · rename_i h0
    refine ⟨exps_append.2 ⟨hsep, ⟨by simp, trivial⟩, fun e he q hq => ?_⟩, fun e he => ?_, fun e he => ?_, ?_, ?_, ?_⟩
    · obtain rfl := List.mem_singleton.1 hq
      exact h.run e he
    · rcases List.mem_append.1 he with he | he
      · exact hrep e he
      · obtain rfl := List.mem_singleton.1 he
        exact h.repx
    · rcases List.mem_append.1 he with he | he
      · exact hnz e he
      · obtain rfl := List.mem_singleton.1 he
        exact h0
    · rw [tot_append, show tot es + tot [x] = T by simp only [tot]; omega]
      exact hT
    · rw [siz_append]
      simp only [siz]
      omega
    · simp only [List.length_append, List.length_singleton]
      omega
theorem parts_nil (U : Int) : Parts 0 U [] := ⟨trivial, by simp, by simp, by simp [tot], by simp [siz], by simp⟩
end Go.Proofs.Ygctac.Fp
