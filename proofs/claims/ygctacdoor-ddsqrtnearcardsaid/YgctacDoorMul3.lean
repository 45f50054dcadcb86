/-
  law.relativeTo.
-/
import Derived.Test.YgctacDoorTwo
import Derived.Test.YgctacDoorAccShl
import Derived.Test.YgctacDoorAccCmp
namespace Go.Proofs.YgctacDoor
open Go.RowKit
open Fp (fv)
set_option linter.unusedVariables false
set_option linter.unusedSimpArgs false

/-- 2^-1000's pattern. -/
def slackP : Nat := 103582791429521408
theorem slack_lt : slackP < 18446744073709551616 := by decide
theorem slack_fin : Fp.Fin slackP := by refine (fin_iff slack_lt).1 ?_; decide +kernel

set_option maxRecDepth 100000 in
set_option maxHeartbeats 4000000 in
theorem relativeTo_any (g m o : Int) (k : Nat) (hk : Hid (k < 65536)) (hc : cmpW (absW (g + -m) * 2 ^ k) (absW o + av slackP * 2 ^ k) ≤ 0) (w : World) :
    Calls Tacg.prog 8 #[.agg (accC g), .agg (accC m), .agg (accC o), .int .u16 k] w fun r w' => r = .returned (.bool true) ∧ Below w.heap.size w w' := by
  have HC := hide hc
  clear hc
  have k0 := hide (((accAt_box w g).alloc (.cells (accC m) 33)).alloc (.cells (accC o) 33))
  have k1 := hide ((accAt_box (w.alloc (.cells (accC g) 33)) m).alloc (.cells (accC o) 33))
  have k2 := hide (accAt_box ((w.alloc (.cells (accC g) 33)).alloc (.cells (accC m) 33)) o)
  have kB : Hid (Below w.heap.size w (((w.alloc (.cells (accC g) 33)).alloc (.cells (accC m) 33)).alloc (.cells (accC o) 33))) :=
    (((Below.refl _ _).alloc (Nat.le_refl _) _).alloc (by rw [size_alloc]; omega) _).alloc (by rw [size_alloc, size_alloc]; omega) _
  simp only [size_alloc] at k1 k2
  generalize hX : absW (g + -m) = X at *
  go_enter Tacg.func8, Tacg.ntmps8
  go_wp2_with (first | (refine wpList_load_acc rfl _ rfl _ _ rfl k0.out ?_) | (refine wpList_load_acc rfl _ rfl _ _ rfl k1.out ?_))
  generalize ((w.alloc (.cells (accC g) 33)).alloc (.cells (accC m) 33)).alloc (.cells (accC o) 33) = W at *
  refine (gap_any g m _).mono ?_
  rintro e W1 ⟨rfl, hW⟩
  rw [hX]
  have hs := k2.out.lt
  have k21 := hide (k2.out.below hW (by omega))
  have kB1 : Hid (Below w.heap.size w W1) := kB.out.trans (hW.mono (by omega))
  clear k0 k1 k2 kB hW hs hX W
  go_wp2_with (first | (refine wpList_store_acc rfl _ _ rfl _ _ Tacg.zeroCells33 rfl rfl (heap_alloc_last _ _) (by rw [zero67, accC_size]) ?_))
  have hs1 := k21.out.lt
  have k2 := hide ((k21.out.alloc (.cells Tacg.zeroCells33 33)).other (c := W1.heap.size) (by omega) (accC X))
  have kz : Hid (AccAt (putB (W1.alloc (.cells Tacg.zeroCells33 33)) W1.heap.size (accC X)) W1.heap.size X) := (accAt_new W1).put _
  have kB : Hid (Below w.heap.size w (putB (W1.alloc (.cells Tacg.zeroCells33 33)) W1.heap.size (accC X))) :=
    below_putB (kB1.out.alloc (by omega) _) (by omega) _
  clear k21 kB1
  generalize putB (W1.alloc (.cells Tacg.zeroCells33 33)) W1.heap.size (accC X) = W at *
  generalize hzz : W1.heap.size = z at *
  clear hzz W1
  refine (accShl_any z X k hk.out _ kz.out).mono ?_
  rintro e w1 ⟨rfl, d1, rfl⟩
  generalize hX : X * 2 ^ k = X1 at *
  have k21 := hide ((k2.out.other (c := z) (by omega) (accC X1)).drewN d1)
  have kz1 := hide ((kz.out.put X1).drewN d1)
  have kB1 := hide (below_drewN (below_putB kB.out (b := z) (by omega) (accC X1)) d1)
  clear k2 kz kB hX
  generalize (putB W z (accC X1)).drewN d1 = W1 at *
  clear W
  go_wp2_with fail
  refine (accAbs_any _ o _ k21.out).mono ?_
  rintro e w1 ⟨rfl, d2, rfl⟩
  generalize absW o = O at *
  have k2 := hide ((k21.out.put O).drewN d2)
  have kz := hide ((kz1.out.other (c := w.heap.size + 1 + 1) (by omega) (accC O)).drewN d2)
  have kB := hide (below_drewN (below_putB kB1.out (b := w.heap.size + 1 + 1) (by omega) (accC O)) d2)
  clear k21 kz1 kB1
  generalize (putB W1 (w.heap.size + 1 + 1) (accC O)).drewN d2 = W at *
  clear W1
  go_wp2_with fail
  refine (accOf_any slackP slack_lt slack_fin _).mono ?_
  rintro e W1 ⟨rfl, hW⟩
  generalize av slackP = S at *
  have hz := kz.out.lt
  have h2 := k2.out.lt
  have kz1 := hide (kz.out.below hW hz)
  have k21 := hide (k2.out.below hW h2)
  have kB1 : Hid (Below w.heap.size w W1) := kB.out.trans (hW.mono (by omega))
  clear k2 kz kB hW hz h2 W
  go_wp2_with (first | (refine wpList_store_acc rfl _ _ rfl _ _ Tacg.zeroCells33 rfl rfl (heap_alloc_last _ _) (by rw [zero67, accC_size]) ?_))
  have hz1 := kz1.out.lt
  have k2 := hide ((k21.out.alloc (.cells Tacg.zeroCells33 33)).other (c := W1.heap.size) (by omega) (accC S))
  have kz := hide ((kz1.out.alloc (.cells Tacg.zeroCells33 33)).other (c := W1.heap.size) (by omega) (accC S))
  have kt : Hid (AccAt (putB (W1.alloc (.cells Tacg.zeroCells33 33)) W1.heap.size (accC S)) W1.heap.size S) := (accAt_new W1).put _
  have kB : Hid (Below w.heap.size w (putB (W1.alloc (.cells Tacg.zeroCells33 33)) W1.heap.size (accC S))) :=
    below_putB (kB1.out.alloc (by omega) _) (by omega) _
  clear k21 kz1 kB1
  generalize putB (W1.alloc (.cells Tacg.zeroCells33 33)) W1.heap.size (accC S) = W at *
  generalize hzz : W1.heap.size = t at *
  clear hzz W1
  refine (accShl_any t S k hk.out _ kt.out).mono ?_
  rintro e w1 ⟨rfl, d3, rfl⟩
  generalize S * 2 ^ k = S1 at *
  have k21 := hide ((k2.out.other (c := t) (by omega) (accC S1)).drewN d3)
  have kz1 := hide ((kz.out.other (c := t) (by omega) (accC S1)).drewN d3)
  have kt1 := hide ((kt.out.put S1).drewN d3)
  have kB1 := hide (below_drewN (below_putB kB.out (b := t) (by omega) (accC S1)) d3)
  clear k2 kz kt kB
  generalize (putB W t (accC S1)).drewN d3 = W1 at *
  clear W
  go_wp2_with fail
  refine (accAdd_any _ t O S1 (by omega) _ k21.out kt1.out).mono ?_
  rintro e w1 ⟨rfl, d4, rfl⟩
  generalize O + S1 = O1 at *
  have k2 := hide ((k21.out.put O1).drewN d4)
  have kz := hide ((kz1.out.other (c := w.heap.size + 1 + 1) (by omega) (accC O1)).drewN d4)
  have kB := hide (below_drewN (below_putB kB1.out (b := w.heap.size + 1 + 1) (by omega) (accC O1)) d4)
  clear k21 kz1 kB1 kt1
  generalize (putB W1 (w.heap.size + 1 + 1) (accC O1)).drewN d4 = W at *
  clear W1
  go_wp2_with fail
  refine (accCmp_any z _ X1 O1 _ kz.out k2.out).mono ?_
  rintro e w1 ⟨rfl, d5, rfl⟩
  have hc := HC.out
  clear HC
  generalize cmpW X1 O1 = C at *
  go_wp2
  go_ret
  exact ⟨rfl, below_drewN kB.out d5⟩
end Go.Proofs.YgctacDoor
