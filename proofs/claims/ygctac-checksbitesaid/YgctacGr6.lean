/-
  law.accTotal, law.roomOf, law.biteRoom.
-/
import Derived.Test.YgctacGr5
namespace Go.Proofs.Ygctac
open Go.RowKit
open Fp (fv)
set_option linter.unusedVariables false
set_option linter.unusedSimpArgs false

/-- A slice whose first n values read as X. -/
def SlV (w : World) (p : Option Addr) (n : Nat) (X : Nat → Value) : Prop := ∀ i, i < n → ∃ b o, p = some ⟨b, o, none⟩ ∧ w.cell? ⟨b, o + i, none⟩ = some (X i)
theorem SlV.below {w w' : World} {p : Option Addr} {n : Nat} {X : Nat → Value} (h : SlV w p n X) (hb : Below w.heap.size w w') : SlV w' p n X := fun i hi => by
  obtain ⟨b, o, h1, h2⟩ := h i hi
  exact ⟨b, o, h1, by rw [hb.cell (World.block_lt_of_cell? w _ h2), h2]⟩
theorem SlV.le {w : World} {p : Option Addr} {n m : Nat} {X : Nat → Value} (h : SlV w p n X) (hm : m ≤ n) : SlV w p m X := fun i hi => h i (by omega)
def flX (f : Nat → Nat) : Nat → Value := fun i => .float .f64 (f i)
def ulX (f : Nat → Nat) : Nat → Value := fun i => .int .u64 (f i)
/-- The exact sum of the first i terms, in the accumulator's units. -/
def sumA (f : Nat → Nat) : Nat → Int
  | 0 => 0
  | n + 1 => sumA f n + av (f n)

set_option maxRecDepth 100000 in
set_option maxHeartbeats 4000000 in
theorem accTotal_any (p : Option Addr) (n c : Nat) (f : Nat → Nat) (hn : n ≤ 1024) (hf : ∀ i, i < n → f i < 18446744073709551616 ∧ Fp.Fin (f i)) (w : World) (hs : SlV w p n (flX f)) :
    Calls Tacg.prog 91 #[.slice p n c] w fun r w' => r = .returned (.agg (accC (sumA f n))) ∧ Below w.heap.size w w' := by
  have h0 : AccAt ((w.alloc (.cells Tacg.zeroCells67 67)).alloc (.cells Tacg.zeroCells67 67)) (w.heap.size + 1) 0 := by
    have := accAt_new (w.alloc (.cells Tacg.zeroCells67 67))
    rwa [size_alloc] at this
  have h00 : ((w.alloc (.cells Tacg.zeroCells67 67)).alloc (.cells Tacg.zeroCells67 67)).heap[w.heap.size]? = some (.cells Tacg.zeroCells67 67 (0, 0)) := by
    rw [heap_alloc_old _ _ _ (by rw [size_alloc]; omega), heap_alloc_last]
  have hB : Below w.heap.size w ((w.alloc (.cells Tacg.zeroCells67 67)).alloc (.cells Tacg.zeroCells67 67)) :=
    ((Below.refl _ _).alloc (Nat.le_refl _) _).alloc (by rw [size_alloc]; omega) _
  have H0 := hide (And.intro h0 (And.intro h00 hB))
  clear h0 h00 hB
  have HF := hide hf
  have HS := hide hs
  clear hf hs
  go_enter Tacg.func91, Tacg.ntmps91
  go_wp2_with fail
  go_loopw [4] (fun s4 w1 => ∃ (i : Nat) (W : World), s4 = .int .i64 i ∧ i ≤ n ∧ w1 = W ∧ Hid (AccAt W (w.heap.size + 1) (sumA f i)) ∧ Hid (W.heap[w.heap.size]? = some (.cells Tacg.zeroCells67 67 (0, 0))) ∧ Hid (Below w.heap.size w W)) (fun s4 _ => n - (intOf s4).toNat)
  case atStart => exact ⟨0, _, rfl, by omega, rfl, hide H0.out.1, hide H0.out.2.1, hide H0.out.2.2⟩
  case round =>
    obtain ⟨i, W, rfl, hi, hw, hA, hZ, hB⟩ := hrel
    obtain rfl := hw.symm
    clear hw
    by_cases ci : i < n
    · have c' : (i : Int) < (n : Int) := by omega
      obtain ⟨b, o, rfl, hc⟩ := HS.out.below hB.out i ci
      simp only [flX] at hc
      have hfi := HF.out i ci
      go_wp2_with fail
      refine (addFloat_any _ (f i) _ hfi.1 hfi.2 _ hA.out).mono ?_
      rintro e w' ⟨rfl, d, hw⟩
      have g1 : AccAt w' (w.heap.size + 1) (sumA f (i + 1)) := by rw [hw]; exact (hA.out.put _).drewN d
      have g2 : w'.heap[w.heap.size]? = some (.cells Tacg.zeroCells67 67 (0, 0)) := by rw [hw, drewN_heap, putB_heap _ _ _ _ (by omega), hZ.out]
      have g3 : Below w.heap.size w w' := by rw [hw]; exact below_drewN (below_putB hB.out (by omega) _) d
      clear hw
      have G := hide (And.intro g1 (And.intro g2 g3))
      clear g1 g2 g3
      go_wp2_with fail
      go_roundw
      case rel => exact ⟨i + 1, _, by go_num, by omega, rfl, hide G.out.1, hide G.out.2.1, hide G.out.2.2⟩
      case measure => simp [intOf]; omega
    · obtain rfl : i = n := by omega
      have h1 := hA.out
      have hb := hZ.out
      clear hA hZ
      go_wp2_with (first | (refine wpList_load_acc rfl _ rfl _ _ rfl h1 ?_) | (refine wpList_store_acc rfl _ _ rfl _ _ _ rfl rfl hb (by rw [zero67, accC_size]) ?_))
      refine bodyPost_ret (results_cell1 (by rfl) _ _ _ ⟨w.heap.size, 0, none⟩ (.agg (accC (sumA f i))) rfl (loadVar_acc ?_)) rfl ⟨rfl, below_putB hB.out (Nat.le_refl _) _⟩
      exact putB_same _ _ _ (by have := h1.lt; omega)

/-- n * 2^4196, its low i bits. -/
def roomI (n i : Nat) : Int := ((n % 2 ^ i : Nat) : Int) * room1
theorem roomI_zero (n : Nat) : roomI n 0 = 0 := by simp [roomI, Nat.mod_one]
theorem roomI_full (n : Nat) (h : n < 4294967296) : roomI n 32 = n * room1 := by
  rw [roomI, Nat.mod_eq_of_lt (by omega)]
theorem roomI_skip (n i : Nat) (h : n / 2 ^ i % 2 = 0) : roomI n (i + 1) = roomI n i := by
  rw [roomI, roomI, Nat.mod_pow_succ, h]
  simp
theorem roomI_step (n i : Nat) (h : n / 2 ^ i % 2 = 1) : roomI n (i + 1) = roomI n i + 2 ^ (4196 + i) := by
  rw [roomI, roomI, Nat.mod_pow_succ, h, Nat.mul_one, Int.natCast_add, Int.add_mul, Fp.natp2_cast, room1, ← pp_add, Nat.add_comm i 4196]
end Go.Proofs.Ygctac
