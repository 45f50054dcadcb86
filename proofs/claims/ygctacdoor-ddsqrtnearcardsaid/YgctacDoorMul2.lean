/-
  law.accProd, law.accDDMul: the exact product in an accumulator.
-/
import Derived.Test.YgctacDoorMul1
import Derived.Test.YgctacDoorTwo
namespace Go.Proofs.YgctacDoor
open Go.RowKit
open Fp (fv)
set_option linter.unusedVariables false
set_option linter.unusedSimpArgs false

set_option maxRecDepth 100000 in
set_option maxHeartbeats 1000000 in
theorem accProd_any (p q : Nat) (hp : p < 18446744073709551616) (hf : Fp.Fin p) (hq : q < 18446744073709551616) (hg : Fp.Fin q) (w : World) :
    Calls Tacg.prog 26 #[.float .f64 p, .float .f64 q] w fun r w' => r = .returned (.agg (accC (fv p * fv q))) ∧ Below w.heap.size w w' := by
  have h0 : AccAt ((w.alloc (.cells Tacg.zeroCells33 33)).alloc (.cells Tacg.zeroCells33 33)) (w.heap.size + 1) 0 := by
    have := accAt_new (w.alloc (.cells Tacg.zeroCells33 33))
    rwa [size_alloc] at this
  have h00 : ((w.alloc (.cells Tacg.zeroCells33 33)).alloc (.cells Tacg.zeroCells33 33)).heap[w.heap.size]? = some (.cells Tacg.zeroCells33 33 (0, 0)) := by
    rw [heap_alloc_old _ _ _ (by rw [size_alloc]; omega), heap_alloc_last]
  have hB : Below w.heap.size w ((w.alloc (.cells Tacg.zeroCells33 33)).alloc (.cells Tacg.zeroCells33 33)) :=
    ((Below.refl _ _).alloc (Nat.le_refl _) _).alloc (by rw [size_alloc]; omega) _
  go_enter Tacg.func26, Tacg.ntmps26
  go_wp2_with fail
  generalize (w.alloc (.cells Tacg.zeroCells33 33)).alloc (.cells Tacg.zeroCells33 33) = W at *
  refine (addProd_any _ p q 0 hp hf hq hg _ h0).mono ?_
  rintro e w' ⟨rfl, d, rfl⟩
  rw [Int.zero_add]
  generalize hv : fv p * fv q = v at *
  have h1 := (h0.put v).drewN d
  have hb : ((putB W (w.heap.size + 1) (accC v)).drewN d).heap[w.heap.size]? = some (.cells Tacg.zeroCells33 33 (0, 0)) := by
    rw [drewN_heap, putB_heap _ _ _ _ (by omega), h00]
  have hB1 : Below w.heap.size w ((putB W (w.heap.size + 1) (accC v)).drewN d) := below_drewN (below_putB hB (by omega) _) d
  generalize (putB W (w.heap.size + 1) (accC v)).drewN d = W1 at *
  go_wp2_with (first | (refine wpList_load_acc rfl _ rfl _ _ rfl h1 ?_) | (refine wpList_store_acc rfl _ _ rfl _ _ _ rfl rfl hb (by rw [zero67, accC_size]) ?_))
  refine bodyPost_ret (results_cell1 (by rfl) _ _ _ ⟨w.heap.size, 0, none⟩ (.agg (accC v)) rfl (loadVar_acc ?_)) rfl ⟨by rw [hv], below_putB hB1 (Nat.le_refl _) _⟩
  exact putB_same _ _ _ (by have := h1.lt; omega)

/-- A twofold number in memory. -/
structure DDAt (w : World) (b : Nat) (x y : Nat) : Prop where
  c0 : w.cell? ⟨b, 0, none⟩ = some (.float .f64 x)
  c1 : w.cell? ⟨b, 1, none⟩ = some (.float .f64 y)
theorem DDAt.lt {w : World} {b x y : Nat} (h : DDAt w b x y) : b < w.heap.size := World.block_lt_of_cell? w _ h.c0
theorem DDAt.box (w : World) (x y : Nat) : DDAt (w.alloc (.cells #[.float .f64 x, .float .f64 y] 25)) w.heap.size x y :=
  ⟨by rw [World.cell?, heap_alloc_last]; rfl, by rw [World.cell?, heap_alloc_last]; rfl⟩
theorem DDAt.block {w w' : World} {b x y : Nat} (h : DDAt w b x y) (e : w'.heap[b]? = w.heap[b]?) : DDAt w' b x y :=
  ⟨by rw [World.cell?_of_block (w := w) e]; exact h.c0, by rw [World.cell?_of_block (w := w) e]; exact h.c1⟩
theorem DDAt.alloc {w : World} {b x y : Nat} (h : DDAt w b x y) (o : Obj) : DDAt (w.alloc o) b x y := h.block (heap_alloc_old _ _ _ h.lt)
theorem DDAt.below {w w' : World} {b x y B : Nat} (h : DDAt w b x y) (hb : Below B w w') (hB : b < B) : DDAt w' b x y := h.block (hb.block b hB)
theorem DDAt.put {w : World} {b x y c : Nat} (h : DDAt w b x y) (hc : c ≠ b) (C : Array Value) (d : Nat) : DDAt ((putB w c C).drewN d) b x y :=
  h.block (by rw [drewN_heap, putB_heap _ _ _ _ (by omega)])

set_option maxRecDepth 100000 in
set_option maxHeartbeats 2000000 in
theorem accDDMul_any (xh xl yh yl : Nat) (a1 : xh < 18446744073709551616) (b1 : Fp.Fin xh) (a2 : xl < 18446744073709551616) (b2 : Fp.Fin xl)
    (a3 : yh < 18446744073709551616) (b3 : Fp.Fin yh) (a4 : yl < 18446744073709551616) (b4 : Fp.Fin yl) (w : World) :
    Calls Tacg.prog 9 #[.agg #[.float .f64 xh, .float .f64 xl], .agg #[.float .f64 yh, .float .f64 yl]] w fun r w' => r = .returned (.agg (accC ((fv xh + fv xl) * (fv yh + fv yl)))) ∧ Below w.heap.size w w' := by
  have kx := hide (((DDAt.box w xh xl).alloc (.cells #[.float .f64 yh, .float .f64 yl] 25)).alloc (.cells Tacg.zeroCells33 33))
  have ky := hide ((DDAt.box (w.alloc (.cells #[.float .f64 xh, .float .f64 xl] 25)) yh yl).alloc (.cells Tacg.zeroCells33 33))
  have k0 := hide (accAt_new ((w.alloc (.cells #[.float .f64 xh, .float .f64 xl] 25)).alloc (.cells #[.float .f64 yh, .float .f64 yl] 25)))
  have kB : Hid (Below w.heap.size w (((w.alloc (.cells #[.float .f64 xh, .float .f64 xl] 25)).alloc (.cells #[.float .f64 yh, .float .f64 yl] 25)).alloc (.cells Tacg.zeroCells33 33))) :=
    (((Below.refl _ _).alloc (Nat.le_refl _) _).alloc (by rw [size_alloc]; omega) _).alloc (by rw [size_alloc, size_alloc]; omega) _
  simp only [size_alloc] at ky k0
  go_enter Tacg.func9, Tacg.ntmps9
  go_wp2_with fail
  generalize ((w.alloc (.cells #[.float .f64 xh, .float .f64 xl] 25)).alloc (.cells #[.float .f64 yh, .float .f64 yl] 25)).alloc (.cells Tacg.zeroCells33 33) = W at *
  refine (accProd_any xh yh a1 b1 a3 b3 _).mono ?_
  rintro e W1 ⟨rfl, hW⟩
  have hs := k0.out.lt
  have kx1 := hide (kx.out.below hW (by omega))
  have ky1 := hide (ky.out.below hW (by omega))
  have k01 := hide (k0.out.below hW (by omega))
  have kB1 : Hid (Below w.heap.size w W1) := kB.out.trans (hW.mono (by omega))
  have hs1 : w.heap.size + 1 + 1 < W1.heap.size := by have := hW.size; omega
  clear kx ky k0 kB hW hs W
  generalize hv1 : fv xh * fv yh = v1 at *
  have lx := kx1.out.lt
  have ly := ky1.out.lt
  have kx := hide ((kx1.out.alloc (.cells Tacg.zeroCells33 33)).put (c := W1.heap.size) (by omega) (accC v1) 0)
  have ky := hide ((ky1.out.alloc (.cells Tacg.zeroCells33 33)).put (c := W1.heap.size) (by omega) (accC v1) 0)
  have k0 := hide ((k01.out.alloc (.cells Tacg.zeroCells33 33)).other (c := W1.heap.size) (by omega) (accC v1))
  have kz : Hid (AccAt (putB (W1.alloc (.cells Tacg.zeroCells33 33)) W1.heap.size (accC v1)) W1.heap.size v1) := (accAt_new W1).put _
  have kB : Hid (Below w.heap.size w (putB (W1.alloc (.cells Tacg.zeroCells33 33)) W1.heap.size (accC v1))) :=
    below_putB (kB1.out.alloc (by omega) _) (by omega) _
  have c0 := kx.out.c0
  have c1 := kx.out.c1
  have c2 := ky.out.c0
  have c3 := ky.out.c1
  simp only [show ∀ w : World, w.drewN 0 = w from fun _ => rfl] at c0 c1 c2 c3 kx ky
  clear kx1 ky1 k01 kB1
  go_wp2_with (first | (refine wpList_store_acc rfl _ _ rfl _ _ Tacg.zeroCells33 rfl rfl (heap_alloc_last _ _) (by rw [zero67, accC_size]) ?_))
  clear c0 c1 c2 c3
  generalize putB (W1.alloc (.cells Tacg.zeroCells33 33)) W1.heap.size (accC v1) = W at *
  generalize hzz : W1.heap.size = z at *
  clear hzz W1
  refine (addProd_any z xh yl v1 a1 b1 a4 b4 _ kz.out).mono ?_
  rintro e w1 ⟨rfl, d1, rfl⟩
  generalize hv2 : v1 + fv xh * fv yl = v2 at *
  have kx1 := hide (kx.out.put (c := z) (by omega) (accC v2) d1)
  have ky1 := hide (ky.out.put (c := z) (by omega) (accC v2) d1)
  have k01 := hide ((k0.out.other (c := z) (by omega) (accC v2)).drewN d1)
  have kz1 := hide ((kz.out.put v2).drewN d1)
  have kB1 := hide (below_drewN (below_putB kB.out (b := z) (by omega) (accC v2)) d1)
  have c0 := kx1.out.c0
  have c1 := kx1.out.c1
  have c2 := ky1.out.c0
  have c3 := ky1.out.c1
  clear kx ky k0 kz kB
  generalize (putB W z (accC v2)).drewN d1 = W1 at *
  clear W
  go_wp2_with fail
  clear c0 c1 c2 c3
  refine (addProd_any z xl yh v2 a2 b2 a3 b3 _ kz1.out).mono ?_
  rintro e w1 ⟨rfl, d2, rfl⟩
  generalize hv3 : v2 + fv xl * fv yh = v3 at *
  have kx := hide (kx1.out.put (c := z) (by omega) (accC v3) d2)
  have ky := hide (ky1.out.put (c := z) (by omega) (accC v3) d2)
  have k0 := hide ((k01.out.other (c := z) (by omega) (accC v3)).drewN d2)
  have kz := hide ((kz1.out.put v3).drewN d2)
  have kB := hide (below_drewN (below_putB kB1.out (b := z) (by omega) (accC v3)) d2)
  have c0 := kx.out.c0
  have c1 := kx.out.c1
  have c2 := ky.out.c0
  have c3 := ky.out.c1
  clear kx1 ky1 k01 kz1 kB1
  generalize (putB W1 z (accC v3)).drewN d2 = W at *
  clear W1
  go_wp2_with fail
  clear c0 c1 c2 c3
  refine (addProd_any z xl yl v3 a2 b2 a4 b4 _ kz.out).mono ?_
  rintro e w1 ⟨rfl, d3, rfl⟩
  generalize hv4 : v3 + fv xl * fv yl = v4 at *
  have k01 := (k0.out.other (c := z) (by omega) (accC v4)).drewN d3
  have kz1 := (kz.out.put v4).drewN d3
  have kB1 := below_drewN (below_putB kB.out (b := z) (by omega) (accC v4)) d3
  have e4 : (fv xh + fv xl) * (fv yh + fv yl) = v4 := by
    rw [← hv4, ← hv3, ← hv2, ← hv1, Int.add_mul, Int.mul_add, Int.mul_add]; omega
  clear kx ky k0 kz kB hv1 hv2 hv3 hv4
  generalize (putB W z (accC v4)).drewN d3 = W1 at *
  have hb : W1.heap[w.heap.size + 1 + 1]? = some (.cells (accC 0) 33 (0, 0)) := k01
  go_wp2_with (first | (refine wpList_load_acc rfl _ rfl _ _ rfl kz1 ?_) | (refine wpList_store_acc rfl _ _ rfl _ _ _ rfl rfl hb (by rw [accC_size]) ?_))
  refine bodyPost_ret (results_cell1 (by rfl) _ _ _ ⟨w.heap.size + 1 + 1, 0, none⟩ (.agg (accC v4)) rfl (loadVar_acc ?_)) rfl ⟨by rw [e4], below_putB kB1 (by omega) _⟩
  exact putB_same _ _ _ (by have := k01.lt; omega)
end Go.Proofs.YgctacDoor
