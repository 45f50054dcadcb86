/-
  Acc.Within.
-/
import Derived.Test.YgctacGr4
namespace Go.Proofs.Ygctac
open Go.RowKit
open Fp (fv)
set_option linter.unusedVariables false
set_option linter.unusedSimpArgs false

def room1 : Int := 2 ^ 4196
theorem room1_pos : 0 < room1 := pp 4196
theorem room1_word : (0 : Int) + (68719476736 - wd 0 65) * 2 ^ (64 * 65) = room1 := by
  have : wd 0 65 = 0 := by rw [wd, Int.zero_ediv]; rfl
  rw [this, room1, show (4196 : Nat) = 36 + 64 * 65 from rfl, pp_add, Int.zero_add]
  rfl
theorem room1_cells : Tacg.zeroCells67.setIfInBounds 65 (.int .u64 68719476736) = accC room1 := by
  rw [zero67, accC_set 0 68719476736 65 (by decide) (by decide), room1_word]
def withinB (n : Int) (m : Nat) : Bool := decide (cmpW (-(m * room1)) n ≤ 0) && decide (cmpW n (m * room1) ≤ 0)
theorem cmpW_gt (n m : Int) (h1 : -half ≤ n) (h2 : n < half) (h3 : -half ≤ m) (h4 : m < half) (h : m < n) : ¬ cmpW n m ≤ 0 := by
  unfold cmpW
  rw [up_val n h1 h2, up_val m h3 h4, if_neg (by omega), if_pos (by omega)]
  decide

set_option maxRecDepth 100000 in
set_option maxHeartbeats 4000000 in
theorem within_any (b m : Nat) (n : Int) (hm : m < 4294967296) (w : World) (hA : AccAt w b n) :
    Calls Tacg.prog 93 #[.pointer (some ⟨b, 0, none⟩), .int .u32 m] w fun r w' => r = .returned (.bool (withinB n m)) ∧ Below w.heap.size w w' := by
  have hblt := hA.lt
  have hA2 := hA.alloc (.cells (accC room1) 67)
  have h1 : AccAt (w.alloc (.cells (accC room1) 67)) w.heap.size room1 := heap_alloc_last _ _
  have hB1 : Below w.heap.size w (w.alloc (.cells (accC room1) 67)) := (Below.refl _ _).alloc (Nat.le_refl _) _
  have hs1 := size_alloc w (.cells (accC room1) 67)
  go_enter Tacg.func93, Tacg.ntmps93
  go_wp2_with fail
  rw [room1_cells]
  generalize w.alloc (.cells (accC room1) 67) = W at *
  refine (mulSmall_any _ m room1 hm _ h1).mono ?_
  rintro e w' ⟨rfl, d, hw⟩
  have h2 : AccAt w' w.heap.size (m * room1) := by rw [hw]; exact (h1.put _).drewN d
  have hA3 : AccAt w' b n := by rw [hw]; exact (hA2.other (by omega) _).drewN d
  have hB2 : Below w.heap.size w w' := by rw [hw]; exact below_drewN (below_putB hB1 (Nat.le_refl _) _) d
  have hs2 : w'.heap.size = w.heap.size + 1 := by rw [hw, drewN_heap, putB_size, hs1]
  have HS := hide hs2
  clear hw h1 hA2 hB1 hs1 hs2
  go_wp2_with (first | (refine wpList_load_acc rfl _ rfl _ _ rfl h2 ?_) | (refine wpList_store_acc rfl _ _ rfl _ _ Tacg.zeroCells67 rfl rfl (heap_alloc_last _ _) (by rw [zero67, accC_size]) ?_))
  have hs2 := HS.out
  have h3 : AccAt (putB (w'.alloc (.cells Tacg.zeroCells67 67)) w'.heap.size (accC (m * room1))) w'.heap.size (m * room1) := (accAt_new w').put _
  have h4 := (h2.alloc (.cells Tacg.zeroCells67 67)).other (c := w'.heap.size) (by omega) (accC (m * room1))
  have hA4 := (hA3.alloc (.cells Tacg.zeroCells67 67)).other (c := w'.heap.size) (by omega) (accC (m * room1))
  have hB3 := below_putB (hB2.alloc (by omega) (.cells Tacg.zeroCells67 67)) (b := w'.heap.size) (by omega) (accC (m * room1))
  generalize putB (w'.alloc (.cells Tacg.zeroCells67 67)) w'.heap.size (accC (m * room1)) = W2 at *
  refine (accNeg_any _ _ _ h3).mono ?_
  rintro e w2 ⟨rfl, d2, hw2⟩
  have h5 : AccAt w2 w'.heap.size (-(m * room1)) := by rw [hw2]; exact (h3.put _).drewN d2
  have h6 : AccAt w2 w.heap.size (m * room1) := by rw [hw2]; exact (h4.other (by omega) _).drewN d2
  have hA5 : AccAt w2 b n := by rw [hw2]; exact (hA4.other (by omega) _).drewN d2
  have hB4 : Below w.heap.size w w2 := by rw [hw2]; exact below_drewN (below_putB hB3 (by omega) _) d2
  clear hw2 h3 h4 hA4 hB3 hs2
  have HB := hide hB4
  clear hB4
  go_wp2_with fail
  refine (accCmp_any _ _ _ _ _ h5 hA5).mono ?_
  rintro e w3 ⟨rfl, d3, rfl⟩
  have hA6 := hA5.drewN d3
  have h7 := h6.drewN d3
  by_cases c : cmpW (-(m * room1)) n ≤ 0
  · have c' : cmpW (-(↑m * room1)) n ≤ 0 := c
    go_wp2_with fail
    refine (accCmp_any _ _ _ _ _ hA6 h7).mono ?_
    rintro e w4 ⟨rfl, d4, rfl⟩
    go_wp2_with fail
    go_ret
    refine ⟨?_, below_drewN HB.out _⟩
    unfold withinB
    rw [decide_eq_true c]
    rfl
  · go_wp2_with fail
    go_ret
    refine ⟨?_, below_drewN HB.out d3⟩
    unfold withinB
    rw [decide_eq_false (p := cmpW (-(m * room1)) n ≤ 0) (by omega)]
    rfl
end Go.Proofs.Ygctac
