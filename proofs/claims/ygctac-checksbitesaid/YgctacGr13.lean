/-
  law.CheckPartials.
-/
import Derived.Test.YgctacGr12
namespace Go.Proofs.Ygctac
open Go.RowKit
open Fp (fv)
set_option linter.unusedVariables false
set_option linter.unusedSimpArgs false

theorem abs_bits (p : Nat) (hp : p < 18446744073709551616) : bits .andNot .u64 (p : Int) 9223372036854775808 = ((p % 2 ^ 63 : Nat) : Int) := by
  rw [show (9223372036854775808 : Int) = ((9223372036854775808 : Nat) : Int) from rfl, u64_andNot_nat _ _ hp (by decide), show (18446744073709551615 - 9223372036854775808 : Nat) = 2 ^ 63 - 1 from rfl, Nat.and_two_pow_sub_one_eq_mod]
theorem abs_word {p : Nat} (hp : Fp.Fin p) : p % 2 ^ 63 < 18446744073709551616 ∧ Fp.Fin (p % 2 ^ 63) ∧ fv (p % 2 ^ 63) = ((fv p).natAbs : Int) := by
  obtain ⟨h1, h2⟩ := hp
  refine ⟨by omega, ⟨by omega, by rw [Nat.mod_mod]; exact h2⟩, ?_⟩
  unfold fv
  rw [if_pos (Nat.mod_lt _ (by decide)), Nat.mod_mod]
  split <;> omega
/-- The sum of the sizes. -/
def sizeA (f : Nat → Nat) : Nat → Int
  | 0 => 0
  | n + 1 => sizeA f n + ((fv (f n)).natAbs : Int) * 2 ^ 1074
def room2 : Int := 2 ^ 3149
theorem room2_pos : 0 < room2 := pp 3149
theorem room2_word : (0 : Int) + (8192 - wd 0 49) * 2 ^ (64 * 49) = room2 := by
  have : wd 0 49 = 0 := by rw [wd, Int.zero_ediv]; rfl
  rw [this, room2, show (3149 : Nat) = 13 + 64 * 49 from rfl, pp_add, Int.zero_add]
  rfl
theorem fv_lt {p : Nat} (h : Fp.Fin p) : ((fv p).natAbs : Int) ≤ 2 ^ 2099 := by
  have hp : p < 18446744073709551616 := h.1
  have h1 := fv_abs hp h
  have h2 := sMn_nonneg p
  have h3 := sEx_bounds p
  rw [h1, show (2099 : Nat) = 53 + 2046 from rfl, pp_add]
  have h4 : (2 : Int) ^ (sEx p + 1074).toNat ≤ 2 ^ 2046 := Fp.p2_le (by omega)
  have h5 := pp (sEx p + 1074).toNat
  have h6 : sMn p * 2 ^ (sEx p + 1074).toNat ≤ 2 ^ 53 * 2 ^ (sEx p + 1074).toNat := Int.mul_le_mul_of_nonneg_right (by omega) (Int.le_of_lt h5)
  have h7 : (2 : Int) ^ 53 * 2 ^ (sEx p + 1074).toNat ≤ 2 ^ 53 * 2 ^ 2046 := Int.mul_le_mul_of_nonneg_left h4 (by decide)
  exact Int.le_trans h6 h7
theorem sizeA_bound {f : Nat → Nat} : ∀ n, (∀ i, i < n → Fp.Fin (f i)) → 0 ≤ sizeA f n ∧ sizeA f n ≤ n * (2 ^ 2099 * 2 ^ 1074)
  | 0, _ => ⟨Int.le_refl _, Int.le_of_eq (Int.zero_mul _).symm⟩
  | n + 1, h => by
    have h1 := sizeA_bound n fun i hi => h i (by omega)
    have h2 := fv_lt (h n (by omega))
    have h3 : ((n + 1 : Nat) : Int) * (2 ^ 2099 * 2 ^ 1074) = n * (2 ^ 2099 * 2 ^ 1074) + 2 ^ 2099 * 2 ^ 1074 := by rw [Int.natCast_add, Int.add_mul, Int.natCast_one, Int.one_mul]
    have h4 : ((fv (f n)).natAbs : Int) * 2 ^ 1074 ≤ 2 ^ 2099 * 2 ^ 1074 := Int.mul_le_mul_of_nonneg_right h2 (Int.le_of_lt (pp 1074))
    have h5 : 0 ≤ ((fv (f n)).natAbs : Int) * 2 ^ 1074 := Int.mul_nonneg (Int.natCast_nonneg _) (Int.le_of_lt (pp 1074))
    rw [sizeA]
    rw [h3]
    omega
theorem size_half {f : Nat → Nat} {n : Nat} (hn : n ≤ 2098) (h : ∀ i, i < n → Fp.Fin (f i)) : -half ≤ sizeA f n ∧ sizeA f n < half := by
  obtain ⟨h1, h2⟩ := sizeA_bound n h
  have h3 : half = 2 ^ 1178 * (2 ^ 2099 * 2 ^ 1074) := by
    unfold half
    rw [← pp_add, ← pp_add]
  have hp : (0 : Int) < 2 ^ 2099 * 2 ^ 1074 := Int.mul_pos (pp _) (pp _)
  have h4 : (n : Int) * (2 ^ 2099 * 2 ^ 1074) ≤ 2098 * (2 ^ 2099 * 2 ^ 1074) := Int.mul_le_mul_of_nonneg_right (by omega) (Int.le_of_lt hp)
  have h5 : (2099 : Int) * (2 ^ 2099 * 2 ^ 1074) ≤ 2 ^ 1178 * (2 ^ 2099 * 2 ^ 1074) := Int.mul_le_mul_of_nonneg_right (by
    have : (2 : Int) ^ 12 ≤ 2 ^ 1178 := Fp.p2_le (by decide)
    have : (2 : Int) ^ 12 = 4096 := rfl
    omega) (Int.le_of_lt hp)
  have hh := half_pos
  rw [h3] at hh ⊢
  generalize (2 : Int) ^ 2099 * 2 ^ 1074 = R at *
  generalize (2 : Int) ^ 1178 * R = H at *
  omega
theorem room2_half (N : Nat) (hN : N ≤ 1024) : -half ≤ (N : Int) * room2 ∧ (N : Int) * room2 < half := by
  have h3 : half = 2 ^ 1202 * room2 := by
    unfold half room2
    rw [← pp_add]
  have hp := room2_pos
  have h4 : (N : Int) * room2 ≤ 1024 * room2 := Int.mul_le_mul_of_nonneg_right (by omega) (Int.le_of_lt hp)
  have h5 : (1025 : Int) * room2 ≤ 2 ^ 1202 * room2 := Int.mul_le_mul_of_nonneg_right (by
    have : (2 : Int) ^ 12 ≤ 2 ^ 1202 := Fp.p2_le (by decide)
    have : (2 : Int) ^ 12 = 4096 := rfl
    omega) (Int.le_of_lt hp)
  have h6 := Int.mul_nonneg (Int.natCast_nonneg N) (Int.le_of_lt hp)
  have hh := half_pos
  rw [h3] at hh ⊢
  generalize room2 = R at *
  generalize (2 : Int) ^ 1202 * R = H at *
  omega
/-- What CheckPartials answers. -/
def chkP (f : Nat → Nat) (n N : Nat) : Bool := decide (N ≤ 1024) && (apartN f (-5000) 0 n && decide (sizeA f n ≤ N * room2))

theorem checkP_big (g n N : Nat) (hN : 1024 < N) (w : World) :
    Calls Tacg.prog 96 #[.agg #[.slice (some ⟨g, 0, none⟩) n n, .int .u16 N]] w fun r w' => r = .returned (.bool false) ∧ Below w.heap.size w w' := by
  have t : (1024 : Int) < (N : Int) := by omega
  go_enter Tacg.func96, Tacg.ntmps96
  go_wp2_with fail
  go_ret
  exact ⟨rfl, (Below.refl _ _).alloc (Nat.le_refl _) _⟩

set_option maxRecDepth 100000 in
set_option maxHeartbeats 4000000 in
theorem checkP_any (g n N : Nat) (f : Nat → Nat) (hn : n ≤ 2098) (hN : N < 65536) (hf : ∀ i, i < n → f i < 18446744073709551616) (w : World) (hs : ARow w g n 65 (ulX f)) :
    Calls Tacg.prog 96 #[.agg #[.slice (some ⟨g, 0, none⟩) n n, .int .u16 N]] w fun r w' => r = .returned (.bool (chkP f n N)) ∧ Below w.heap.size w w' := by
  by_cases hN2 : 1024 < N
  · have := checkP_big g n N hN2 w
    unfold chkP
    rwa [decide_eq_false (p := N ≤ 1024) (by omega)]
  have hN3 : N ≤ 1024 := by omega
  have t0 : ¬ (1024 : Int) < (N : Int) := by omega
  have t1 : ¬ (2098 : Int) < (n : Int) := by omega
  have HF := hide hf
  have hB0 : Below w.heap.size w (w.alloc (.cells #[.slice (some ⟨g, 0, none⟩) n n, .int .u16 N] 126)) := (Below.refl _ _).alloc (Nat.le_refl _) _
  have hs0 := hs.after hB0
  have b0 : (w.alloc (.cells #[.slice (some ⟨g, 0, none⟩) n n, .int .u16 N] 126)).cell? ⟨w.heap.size, 0, none⟩ = some (.slice (some ⟨g, 0, none⟩) n n) := cell_of (alloc_last _ _) rfl
  have b1 : (w.alloc (.cells #[.slice (some ⟨g, 0, none⟩) n n, .int .u16 N] 126)).cell? ⟨w.heap.size, 1, none⟩ = some (.int .u16 N) := cell_of (alloc_last _ _) rfl
  clear hf hs
  go_enter Tacg.func96, Tacg.ntmps96
  go_wp2_with fail
  refine (patterns_any g n f hn _ hs0).mono ?_
  rintro e W1 ⟨rfl, hA1, hB1⟩
  have hs1 := hs0.after hB1
  have c0 := below_keeps hB1 b0
  have c1 := below_keeps hB1 b1
  have hBB : Below w.heap.size w W1 := hB0.trans (hB1.mono hB0.size)
  have hS0 : w.heap.size < W1.heap.size := World.block_lt_of_cell? W1 _ c0
  clear hs0 b0 b1 hB1 hB0
  generalize (w.alloc (.cells #[.slice (some ⟨g, 0, none⟩) n n, .int .u16 N] 126)).heap.size = S1 at *
  go_wp2_with fail
  refine (apart_any _ n n f hn HF.out _ hA1.slv).mono ?_
  rintro e w' ⟨rfl, hw⟩; obtain rfl := hw.symm; clear hw
  cases hap : apartN f (-5000) 0 n with
  | false =>
    go_wp2_with fail
    go_ret
    refine ⟨?_, hBB⟩
    unfold chkP
    rw [hap]
    simp
  | true =>
    have hall : ∀ i, i < n → Fp.Fin (f i) := fun i hi => by
      have := ((apartN_iff f n (-5000) 0).1 hap).1 i hi
      rw [Nat.zero_add] at this
      exact (fin_of_one (HF.out i hi) this).1
    have HC : Hid (chkP f n N = decide (cmpW (sizeA f n) (N * room2) ≤ 0)) := by
      unfold Hid chkP
      rw [hap, decide_eq_true hN3]
      have s1 := size_half hn hall
      have s2 := room2_half N hN3
      by_cases c : sizeA f n ≤ N * room2
      · rw [decide_eq_true c, decide_eq_true (cmpW_le _ _ s1.1 s1.2 s2.1 s2.2 c)]; rfl
      · rw [decide_eq_false c, decide_eq_false (cmpW_gt _ _ s1.1 s1.2 s2.1 s2.2 (by omega))]; rfl
    have HFin := hide hall
    clear hall
    have a1 : AccAt ((W1.alloc (.cells Tacg.zeroCells67 67)).alloc (.cells Tacg.zeroCells67 67)) W1.heap.size 0 := by
      have := (accAt_new W1).alloc (.cells Tacg.zeroCells67 67)
      exact this
    have a2 : AccAt ((W1.alloc (.cells Tacg.zeroCells67 67)).alloc (.cells Tacg.zeroCells67 67)) (W1.heap.size + 1) 0 := by
      have := accAt_new (W1.alloc (.cells Tacg.zeroCells67 67))
      rwa [size_alloc] at this
    have hB2 : Below W1.heap.size W1 ((W1.alloc (.cells Tacg.zeroCells67 67)).alloc (.cells Tacg.zeroCells67 67)) :=
      ((Below.refl _ _).alloc (Nat.le_refl _) _).alloc (by rw [size_alloc]; omega) _
    have H0 := hide (And.intro a1 (And.intro a2 hB2))
    have HK := hide (And.intro hs1 (And.intro c0 (And.intro c1 hBB)))
    have HSS := hide hS0
    clear a1 a2 hB2 hs1 c0 c1 hBB hA1 hS0
    go_wp2_with fail
    go_loopw [6] (fun s6 w1 => ∃ (i : Nat) (W : World), s6 = .int .i64 i ∧ i ≤ n ∧ w1 = W ∧ Hid (AccAt W W1.heap.size (sizeA f i)) ∧ Hid (AccAt W (W1.heap.size + 1) 0) ∧ Hid (Below W1.heap.size W1 W)) (fun s6 _ => n - (intOf s6).toNat)
    case atStart => exact ⟨0, _, rfl, by omega, rfl, hide H0.out.1, hide H0.out.2.1, hide H0.out.2.2⟩
    case round =>
      obtain ⟨i, W, rfl, hi, hw, hA, hZ, hB⟩ := hrel
      obtain rfl := hw.symm
      clear hw
      have k0 := below_keeps hB.out HK.out.2.1
      have k1 := below_keeps hB.out HK.out.2.2.1
      by_cases ci : i < n
      · have c' : (i : Int) < (n : Int) := by omega
        have hcx := (HK.out.1.after hB.out).cell ci
        simp only [ulX] at hcx
        have hab := abs_bits (f i) (HF.out i ci)
        obtain ⟨q1, q2, q3⟩ := abs_word (HFin.out i ci)
        have HQ : Hid (av (f i % 2 ^ 63) = ((fv (f i)).natAbs : Int) * 2 ^ 1074) := by
          unfold Hid av
          rw [q3]
        generalize f i % 2 ^ 63 = q at *
        go_wp2_with (first | (go_at_call 47; refine (f64_any _ _).mono ?_; rintro e1 w' ⟨rfl, hw⟩; obtain rfl := hw.symm; clear hw))
        refine (addFloat_any _ q _ q1 q2 _ hA.out).mono ?_
        rintro e w' ⟨rfl, d, hw⟩
        rw [HQ.out] at hw
        have g1 : AccAt w' W1.heap.size (sizeA f (i + 1)) := by rw [hw]; exact (hA.out.put _).drewN d
        have g2 : AccAt w' (W1.heap.size + 1) 0 := by rw [hw]; exact (hZ.out.other (by omega) _).drewN d
        have g3 : Below W1.heap.size W1 w' := by rw [hw]; exact below_drewN (below_putB hB.out (Nat.le_refl _) _) d
        clear hw
        have G := hide (And.intro g1 (And.intro g2 g3))
        clear g1 g2 g3
        go_wp2_with fail
        go_roundw
        case rel => exact ⟨i + 1, _, by go_num, by omega, rfl, hide G.out.1, hide G.out.2.1, hide G.out.2.2⟩
        case measure => simp [intOf]; omega
      · obtain rfl : i = n := by omega
        have hc49 := hZ.out.cell 49 (by decide)
        have hf49 := hZ.out.frozen 49
        have hu : IntKind.u32.wrap (N : Int) = (N : Int) := by simp [IntKind.wrap, IntKind.bits, IntKind.signed]; omega
        have hset := hZ.out.setCell 49 8192 (by decide) (by decide)
        rw [room2_word] at hset
        have g1 : AccAt (W.setCell ⟨W1.heap.size + 1, 49, none⟩ (.int .u64 8192)) W1.heap.size (sizeA f i) := by rw [hset]; exact hA.out.other (by omega) _
        have g2 : AccAt (W.setCell ⟨W1.heap.size + 1, 49, none⟩ (.int .u64 8192)) (W1.heap.size + 1) room2 := by rw [hset]; exact hZ.out.put _
        have g3 : Below W1.heap.size W1 (W.setCell ⟨W1.heap.size + 1, 49, none⟩ (.int .u64 8192)) := by rw [hset]; exact below_putB hB.out (by omega) _
        have k2 := below_keeps g3 HK.out.2.2.1
        clear hset
        have G := hide (And.intro g1 (And.intro g2 g3))
        clear g1 g2 g3 hA hZ hB
        go_wp2_with fail
        refine (mulSmall_any _ N room2 (by omega) _ G.out.2.1).mono ?_
        rintro e w2 ⟨rfl, d, hw⟩
        have g1 : AccAt w2 W1.heap.size (sizeA f i) := by rw [hw]; exact (G.out.1.other (by omega) _).drewN d
        have g2 : AccAt w2 (W1.heap.size + 1) (N * room2) := by rw [hw]; exact (G.out.2.1.put _).drewN d
        have g3 : Below W1.heap.size W1 w2 := by rw [hw]; exact below_drewN (below_putB G.out.2.2 (by omega) _) d
        clear hw G
        have G := hide (And.intro g1 (And.intro g2 g3))
        clear g1 g2 g3
        go_wp2_with fail
        refine (accCmp_any _ _ _ _ _ G.out.1 G.out.2.1).mono ?_
        rintro e w3 ⟨rfl, d3, hw⟩
        have g3 : Below w.heap.size w w3 := by
          rw [hw]
          exact below_drewN (HK.out.2.2.2.trans (G.out.2.2.mono HK.out.2.2.2.size)) d3
        have G3 := hide g3
        clear hw g3
        go_wp2_with fail
        go_ret
        exact ⟨by rw [HC.out]; rfl, G3.out⟩
end Go.Proofs.Ygctac
