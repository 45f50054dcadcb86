/-
  law.biteRoom.
-/
import Derived.Test.YgctacGr7
namespace Go.Proofs.Ygctac
open Go.RowKit
open Fp (fv)
set_option linter.unusedVariables false
set_option linter.unusedSimpArgs false

/-- 2^1000 in units of 2^-1074. -/
def admE : Nat := 2074
def admU : Nat := 2 ^ admE
theorem admU_cast : (admU : Int) = 2 ^ admE := Fp.natp2_cast admE
/-- Terms that the sums let in. -/
def Adm (f : Nat → Nat) (n : Nat) : Prop := ∀ i, i < n → f i < 18446744073709551616 ∧ Fp.Fin (f i) ∧ (fv (f i)).natAbs ≤ admU
theorem av_le {p A : Nat} (h : (fv p).natAbs ≤ A) : ((av p).natAbs : Int) ≤ A * 2 ^ 1074 := by
  rw [av, Fp.natAbs_mul_p2, ← Fp.natp2_cast 1074, ← Int.natCast_mul]
  generalize (2 : Nat) ^ 1074 = E
  exact Int.ofNat_le.2 (Nat.mul_le_mul_right _ h)
theorem adm_room : (admU : Int) * 2 ^ 1074 ≤ room1 := by
  rw [admU_cast, ← pp_add, room1]
  exact Fp.p2_le (by decide)
theorem sumA_le {f : Nat → Nat} {R : Int} : ∀ n, (∀ i, i < n → ((av (f i)).natAbs : Int) ≤ R) → ((sumA f n).natAbs : Int) ≤ n * R
  | 0, _ => by simp [sumA]
  | n + 1, h => by
    have h1 := sumA_le n fun i hi => h i (by omega)
    have h2 := h n (by omega)
    have h3 : ((n + 1 : Nat) : Int) * R = n * R + R := by rw [Int.natCast_add, Int.add_mul]; simp
    rw [sumA]
    omega
theorem av_one : av 1 = 2 ^ 1074 := by
  have : fv 1 = 1 := by decide
  rw [av, this, Int.one_mul]
theorem fin_one : Fp.Fin 1 := ⟨by decide, by decide⟩
theorem i64_u32 (n : Nat) (h : n ≤ 1024) : IntKind.u32.wrap (n : Int) = (n : Int) := by
  simp [IntKind.wrap, IntKind.bits, IntKind.signed]; omega

set_option maxRecDepth 100000 in
set_option maxHeartbeats 4000000 in
theorem biteRoom_any (p : Option Addr) (n c : Nat) (f : Nat → Nat) (hn : n ≤ 1024) (hf : Adm f n) (w : World) (hs : SlV w p n (flX f)) :
    Calls Tacg.prog 30 #[.slice p n c] w fun r w' => r = .returned (.bool true) ∧ Below w.heap.size w w' := by
  have hx := i64_u32 n hn
  have hR := adm_room
  have h1 : ((sumA f n).natAbs : Int) ≤ n * room1 := sumA_le n fun i hi => Int.le_trans (av_le (hf i hi).2.2) hR
  have HW1 := hide (within_yes (m := n) (by omega) h1)
  have h2 : ((((n : Int) * room1).natAbs : Nat) : Int) ≤ n * room1 := by
    have := Int.mul_nonneg (Int.natCast_nonneg n) (Int.le_of_lt room1_pos)
    omega
  have HW2 := hide (within_yes (m := n) (by omega) h2)
  have HW3 := hide (within_no (n := n * room1 + 2 ^ 1074) (m := n) (by omega) (by have := pp 1074; omega) (Int.le_refl _))
  have HT := hide (accTotal_any p n c f hn (fun i hi => ⟨(hf i hi).1, (hf i hi).2.1⟩) w hs)
  clear hR h1 h2 hs hf
  go_enter Tacg.func30, Tacg.ntmps30
  go_wp2_with fail
  refine HT.out.mono ?_
  rintro e W1 ⟨rfl, hB1⟩
  go_wp2_with fail
  refine (roomOf_any n (by omega) _).mono ?_
  rintro e W2 ⟨rfl, hB2⟩
  have hB : Below w.heap.size w W2 := hB1.trans (hB2.mono hB1.size)
  clear hB1 hB2
  have HB := hide hB
  clear hB
  have z1 : ((W2.alloc (.cells Tacg.zeroCells67 67)).alloc (.cells Tacg.zeroCells67 67)).heap[W2.heap.size]? = some (.cells Tacg.zeroCells67 67 (0, 0)) := by
    rw [heap_alloc_old _ _ _ (by rw [size_alloc]; omega), heap_alloc_last]
  have z2 : (putB ((W2.alloc (.cells Tacg.zeroCells67 67)).alloc (.cells Tacg.zeroCells67 67)) W2.heap.size (accC (sumA f n))).heap[W2.heap.size + 1]? = some (.cells Tacg.zeroCells67 67 (0, 0)) := by
    rw [putB_heap _ _ _ _ (by omega)]
    have := heap_alloc_last (W2.alloc (.cells Tacg.zeroCells67 67)) (.cells Tacg.zeroCells67 67)
    rwa [size_alloc] at this
  have hsz : ((W2.alloc (.cells Tacg.zeroCells67 67)).alloc (.cells Tacg.zeroCells67 67)).heap.size = W2.heap.size + 2 := by rw [size_alloc, size_alloc]
  have hBB : Below w.heap.size w (putB (putB ((W2.alloc (.cells Tacg.zeroCells67 67)).alloc (.cells Tacg.zeroCells67 67)) W2.heap.size (accC (sumA f n))) (W2.heap.size + 1) (accC (n * room1))) := by
    have hs := HB.out.size
    exact below_putB (below_putB ((HB.out.alloc hs _).alloc (by rw [size_alloc]; omega) _) hs _) (by omega) _
  have a2 : AccAt (putB (putB ((W2.alloc (.cells Tacg.zeroCells67 67)).alloc (.cells Tacg.zeroCells67 67)) W2.heap.size (accC (sumA f n))) (W2.heap.size + 1) (accC (n * room1))) (W2.heap.size + 1) (n * room1) := putB_same _ _ _ (by rw [putB_size, hsz]; omega)
  have a1 : AccAt (putB (putB ((W2.alloc (.cells Tacg.zeroCells67 67)).alloc (.cells Tacg.zeroCells67 67)) W2.heap.size (accC (sumA f n))) (W2.heap.size + 1) (accC (n * room1))) W2.heap.size (sumA f n) := by
    refine AccAt.other ?_ (by omega) _
    exact putB_same _ _ _ (by rw [hsz]; omega)
  have HA := hide (And.intro a1 (And.intro a2 hBB))
  have HG := hide HB.out.size
  clear a1 a2 hBB hsz
  go_wp2_with (first | (refine wpList_store_acc rfl _ _ rfl _ _ Tacg.zeroCells67 rfl rfl z1 (by rw [zero67, accC_size]) ?_) | (refine wpList_store_acc rfl _ _ rfl _ _ Tacg.zeroCells67 rfl rfl z2 (by rw [zero67, accC_size]) ?_))
  clear z1 z2 HB
  generalize putB (putB ((W2.alloc (.cells Tacg.zeroCells67 67)).alloc (.cells Tacg.zeroCells67 67)) W2.heap.size (accC (sumA f n))) (W2.heap.size + 1) (accC (n * room1)) = W3 at *
  generalize W2.heap.size = S at *
  refine (within_any S n (sumA f n) (by omega) _ HA.out.1).mono ?_
  rintro e W4 ⟨rfl, hB4⟩
  rw [HW1.out]
  have HA4 := hide (And.intro (HA.out.2.1.below hB4 HA.out.2.1.lt) (HA.out.2.2.trans (hB4.mono HA.out.2.2.size)))
  clear hB4 HA
  go_wp2_with fail
  refine (within_any (S + 1) n (n * room1) (by omega) _ HA4.out.1).mono ?_
  rintro e W5 ⟨rfl, hB5⟩
  rw [HW2.out]
  have HA5 := hide (And.intro (HA4.out.1.below hB5 HA4.out.1.lt) (HA4.out.2.trans (hB5.mono HA4.out.2.size)))
  clear hB5 HA4
  go_wp2_with fail
  refine (addFloat_any (S + 1) 1 _ (by decide) fin_one _ HA5.out.1).mono ?_
  rintro e W6 ⟨rfl, d, hw⟩
  rw [av_one] at hw
  have HA6 : Hid (AccAt W6 (S + 1) (n * room1 + 2 ^ 1074) ∧ Below w.heap.size w W6) := by
    rw [hw]
    exact ⟨(HA5.out.1.put _).drewN d, below_drewN (below_putB HA5.out.2 (by have := HG.out; omega) _) d⟩
  clear hw HA5
  go_wp2_with fail
  refine (within_any (S + 1) n _ (by omega) _ HA6.out.1).mono ?_
  rintro e W7 ⟨rfl, hB7⟩
  rw [HW3.out]
  have HA7 := hide (HA6.out.2.trans (hB7.mono HA6.out.2.size))
  clear hB7 HA6
  go_wp2_with fail
  go_ret
  exact ⟨rfl, HA7.out⟩
end Go.Proofs.Ygctac
