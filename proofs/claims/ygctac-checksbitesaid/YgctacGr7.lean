/-
  law.roomOf, law.biteRoom.
-/
import Derived.Test.YgctacGr6
namespace Go.Proofs.Ygctac
open Go.RowKit
open Fp (fv)
set_option linter.unusedVariables false
set_option linter.unusedSimpArgs false

theorem bit_test32 (m k : Nat) (hm : m < 4294967296) : (bits BinOp.and IntKind.u32 (↑m / 2 ^ k) 1 != 0) = bitB m k := by
  have h1 : ((m : Int) / 2 ^ k) = ((m / 2 ^ k : Nat) : Int) := by
    rw [Int.natCast_ediv, Int.natCast_pow]; rfl
  have hlt : m / 2 ^ k ≤ m := Nat.div_le_self _ _
  rw [h1, show (1 : Int) = ((1 : Nat) : Int) from rfl, u32_and_nat _ _ (by omega) (by decide), Nat.and_one_is_mod]
  unfold bitB
  have : m / 2 ^ k % 2 = 0 ∨ m / 2 ^ k % 2 = 1 := by omega
  rcases this with h | h <;> rw [h] <;> rfl
theorem wd_small {k : Int} {w s : Nat} (h0 : 0 ≤ k) (h : k < 2 ^ (64 * w + s)) (hs : s ≤ 64) : wd k w < 2 ^ s := by
  have hp := pp (64 * w)
  have h1 : k / 2 ^ (64 * w) < 2 ^ s := by
    rw [pp_add, Int.mul_comm] at h
    exact Int.ediv_lt_of_lt_mul hp h
  have h2 : 0 ≤ k / 2 ^ (64 * w) := Int.ediv_nonneg h0 (Int.le_of_lt hp)
  have h3 : (2 : Int) ^ s ≤ 2 ^ 64 := Fp.p2_le hs
  rw [wd, Int.emod_eq_of_lt h2 (by omega)]
  exact h1
theorem or_bit {x : Int} {s : Nat} (hs : s < 64) (h0 : 0 ≤ x) (h : x < 2 ^ s) : bits BinOp.or IntKind.u64 x (2 ^ s) = x + 2 ^ s := by
  obtain ⟨x, rfl⟩ := Int.eq_ofNat_of_zero_le h0
  have h' : x < 2 ^ s := by rw [← Fp.natp2_cast] at h; omega
  have h3 : (2 : Nat) ^ s ≤ 2 ^ 63 := Nat.pow_le_pow_right (by decide) (by omega)
  rw [← Fp.natp2_cast, u64_or_nat _ _ (by omega) (by omega), Nat.or_comm]
  have := Nat.two_pow_add_eq_or_of_lt h' 1
  rw [Nat.mul_one] at this
  rw [← this, Int.natCast_add, Int.add_comm]
theorem roomI_lt (n i : Nat) : 0 ≤ roomI n i ∧ roomI n i < 2 ^ (4196 + i) := by
  have h1 := Nat.mod_lt n (Nat.two_pow_pos i)
  have hr := room1_pos
  constructor
  · exact Int.mul_nonneg (Int.natCast_nonneg _) (Int.le_of_lt hr)
  · rw [pp_add, Int.mul_comm, roomI, ← room1]
    refine Int.mul_lt_mul_of_pos_right ?_ hr
    rw [← Fp.natp2_cast]
    omega
/-- One bit more. -/
theorem roomI_put (n i w s : Nat) (hw : 64 * w + s = 4196 + i) (hs : s < 64) (h : n / 2 ^ i % 2 = 1) :
    bits BinOp.or IntKind.u64 (wd (roomI n i) w) (2 ^ s) < 18446744073709551616 ∧ 0 ≤ bits BinOp.or IntKind.u64 (wd (roomI n i) w) (2 ^ s) ∧
    roomI n i + (bits BinOp.or IntKind.u64 (wd (roomI n i) w) (2 ^ s) - wd (roomI n i) w) * 2 ^ (64 * w) = roomI n (i + 1) := by
  have h1 := roomI_lt n i
  have h2 := wd_small (w := w) (s := s) h1.1 (by rw [hw]; exact h1.2) (by omega)
  have h3 := wd_nonneg (roomI n i) w
  have h4 : (2 : Int) ^ s ≤ 2 ^ 63 := Fp.p2_le (by omega)
  rw [or_bit hs h3 h2, roomI_step n i h, ← hw]
  refine ⟨by omega, by omega, ?_⟩
  rw [show wd (roomI n i) w + 2 ^ s - wd (roomI n i) w = 2 ^ s by omega, pp_add, Int.mul_comm]

set_option maxRecDepth 100000 in
set_option maxHeartbeats 4000000 in
theorem roomOf_any (n : Nat) (hn : n < 4294967296) (w : World) :
    Calls Tacg.prog 92 #[.int .u32 n] w fun r w' => r = .returned (.agg (accC (n * room1))) ∧ Below w.heap.size w w' := by
  have h0 : AccAt ((w.alloc (.cells Tacg.zeroCells67 67)).alloc (.cells Tacg.zeroCells67 67)) (w.heap.size + 1) 0 := by
    have := accAt_new (w.alloc (.cells Tacg.zeroCells67 67))
    rwa [size_alloc] at this
  have h00 : ((w.alloc (.cells Tacg.zeroCells67 67)).alloc (.cells Tacg.zeroCells67 67)).heap[w.heap.size]? = some (.cells Tacg.zeroCells67 67 (0, 0)) := by
    rw [heap_alloc_old _ _ _ (by rw [size_alloc]; omega), heap_alloc_last]
  have hB : Below w.heap.size w ((w.alloc (.cells Tacg.zeroCells67 67)).alloc (.cells Tacg.zeroCells67 67)) :=
    ((Below.refl _ _).alloc (Nat.le_refl _) _).alloc (by rw [size_alloc]; omega) _
  have H0 := hide (And.intro h0 (And.intro h00 hB))
  clear h0 h00 hB
  go_enter Tacg.func92, Tacg.ntmps92
  go_wp2_with fail
  go_loopw [4] (fun s4 w1 => ∃ (i : Nat) (W : World), s4 = .int .i64 i ∧ i ≤ 32 ∧ w1 = W ∧ Hid (AccAt W (w.heap.size + 1) (roomI n i)) ∧ Hid (W.heap[w.heap.size]? = some (.cells Tacg.zeroCells67 67 (0, 0))) ∧ Hid (Below w.heap.size w W)) (fun s4 _ => 32 - (intOf s4).toNat)
  case atStart => exact ⟨0, _, rfl, by omega, rfl, hide (by rw [roomI_zero]; exact H0.out.1), hide H0.out.2.1, hide H0.out.2.2⟩
  case round =>
    obtain ⟨i, W, rfl, hi, hw, hA, hZ, hB⟩ := hrel
    obtain rfl := hw.symm
    clear hw
    by_cases ci : i < 32
    · have c' : (i : Int) < 32 := by omega
      have hbt := bit_test32 n i hn
      by_cases hb : bitB n i = true
      · rw [hb] at hbt
        have hone : n / 2 ^ i % 2 = 1 := by simpa [bitB] using hb
        obtain ⟨W6, s, h1, h2, h3⟩ : ∃ W6 s : Nat, 64 * W6 + s = 4196 + i ∧ s < 64 ∧ W6 < 68 := ⟨(4196 + i) / 64, (4196 + i) % 64, by omega, by omega, by omega⟩
        obtain ⟨p1, p2, p3⟩ := roomI_put n i W6 s h1 h2 hone
        have hc := hA.out.cell W6 h3
        have hfz := hA.out.frozen W6
        have q1 : (4196 + (i : Int)).tdiv 64 = (W6 : Int) := by rw [Int.tdiv_eq_ediv_of_nonneg (by omega)]; omega
        have q2 : (4196 + (i : Int)).tmod 64 = (s : Int) := by rw [Int.tmod_eq_emod_of_nonneg (by omega)]; omega
        have q3 : (W6 : Int) < 68 := by omega
        have q4 : (s : Int) < 64 := by omega
        have HP := hide (And.intro p1 (And.intro p2 p3))
        have HH := hide (And.intro h1 (And.intro h2 h3))
        clear p1 p2 p3 h1 h2 h3 hone hb
        go_wp2_with fail
        go_region
        have hwr : IntKind.u64.wrap (2 ^ s) = 2 ^ s := by
          have := HH.out.2.1
          have h4 : (2 : Int) ^ s ≤ 2 ^ 63 := Fp.p2_le (by omega)
          have h5 := Fp.p2pos s
          rw [wrap_u64]
          omega
        rw [hwr, hA.out.setCell W6 _ HP.out.2.1 HP.out.1, HP.out.2.2]
        have g1 : AccAt (putB W (w.heap.size + 1) (accC (roomI n (i + 1)))).drew (w.heap.size + 1) (roomI n (i + 1)) := (hA.out.put _).drewN 1
        have g2 : (putB W (w.heap.size + 1) (accC (roomI n (i + 1)))).drew.heap[w.heap.size]? = some (.cells Tacg.zeroCells67 67 (0, 0)) := by rw [drew_is, drewN_heap, putB_heap _ _ _ _ (by omega), hZ.out]
        have g3 : Below w.heap.size w (putB W (w.heap.size + 1) (accC (roomI n (i + 1)))).drew := below_drewN (below_putB hB.out (by omega) _) 1
        have G := hide (And.intro g1 (And.intro g2 g3))
        clear g1 g2 g3
        generalize (putB W (w.heap.size + 1) (accC (roomI n (i + 1)))).drew = W2 at *
        go_wp2_with fail
        go_roundw
        case rel => exact ⟨i + 1, _, by go_num, by omega, rfl, hide G.out.1, hide G.out.2.1, hide G.out.2.2⟩
        case measure => simp [intOf]; omega
      · have hb' : bitB n i = false := by simpa using hb
        rw [hb'] at hbt
        have hz : n / 2 ^ i % 2 = 0 := by
          have : ¬ n / 2 ^ i % 2 = 1 := by simpa [bitB] using hb
          omega
        go_wp2_with fail
        go_roundw
        case rel => exact ⟨i + 1, _, by go_num, by omega, rfl, hide (by rw [roomI_skip n i hz]; exact hA.out), hZ, hB⟩
        case measure => simp [intOf]; omega
    · obtain rfl : i = 32 := by omega
      have h1 := hA.out
      rw [roomI_full n hn] at h1
      have hb := hZ.out
      clear hA hZ
      go_wp2_with (first | (refine wpList_load_acc rfl _ rfl _ _ rfl h1 ?_) | (refine wpList_store_acc rfl _ _ rfl _ _ _ rfl rfl hb (by rw [zero67, accC_size]) ?_))
      refine bodyPost_ret (results_cell1 (by rfl) _ _ _ ⟨w.heap.size, 0, none⟩ (.agg (accC (n * room1))) rfl (loadVar_acc ?_)) rfl ⟨rfl, below_putB hB.out (Nat.le_refl _) _⟩
      exact putB_same _ _ _ (by have := h1.lt; omega)

theorem half_room (m : Nat) (h : m ≤ 1025) : (m : Int) * room1 < half ∧ 0 ≤ (m : Int) * room1 ∧ ∀ x : Int, (x.natAbs : Int) ≤ m * room1 + 2 ^ 1074 → -half ≤ x ∧ x < half := by
  have h1 : half = 2 ^ 155 * room1 := by
    unfold half room1
    rw [← pp_add]
  have h2 := room1_pos
  have h3 : (m : Int) * room1 ≤ 1025 * room1 := Int.mul_le_mul_of_nonneg_right (by omega) (Int.le_of_lt h2)
  have h4 := Int.mul_nonneg (Int.natCast_nonneg m) (Int.le_of_lt h2)
  have h5 : (2 : Int) ^ 1074 ≤ room1 := Fp.p2_le (by decide)
  generalize half = H at *
  generalize room1 = R at *
  generalize (m : Int) * R = M at *
  generalize (2 : Int) ^ 1074 = E at *
  have h6 : (2 : Int) ^ 155 * R = 45671926166590716193865151022383844364247891968 * R := rfl
  refine ⟨by omega, h4, fun x hx => ⟨by omega, by omega⟩⟩
theorem within_yes {n : Int} {m : Nat} (hm : m ≤ 1025) (h : (n.natAbs : Int) ≤ m * room1) : withinB n m = true := by
  obtain ⟨h1, h2, h3⟩ := half_room m hm
  have hp := pp 1074
  have hn := h3 n (by omega)
  unfold withinB
  rw [decide_eq_true (cmpW_le _ _ (by omega) (by omega) hn.1 hn.2 (by omega)), decide_eq_true (cmpW_le _ _ hn.1 hn.2 (by omega) h1 (by omega))]
  rfl
theorem within_no {n : Int} {m : Nat} (hm : m ≤ 1025) (h : (m : Int) * room1 < n) (hn : n ≤ m * room1 + 2 ^ 1074) : withinB n m = false := by
  obtain ⟨h1, h2, h3⟩ := half_room m hm
  have hx := h3 n (by omega)
  unfold withinB
  rw [decide_eq_false (cmpW_gt _ _ hx.1 hx.2 (by omega) h1 h)]
  simp
end Go.Proofs.Ygctac
