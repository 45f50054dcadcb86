/-
  law.gap, law.twofold.
-/
import Derived.Test.YgctacDoorAccCmp
import Derived.Test.YgctacDoorDD2
namespace Go.Proofs.YgctacDoor
open Go.RowKit
open Fp (fv rnd)
set_option linter.unusedVariables false
set_option linter.unusedSimpArgs false

theorem accAt_box (w : World) (n : Int) : AccAt (w.alloc (.cells (accC n) 33)) w.heap.size n := by
  unfold AccAt
  rw [heap_alloc_last]

set_option maxRecDepth 100000 in
set_option maxHeartbeats 1000000 in
theorem gap_any (n m : Int) (w : World) :
    Calls Tacg.prog 20 #[.agg (accC n), .agg (accC m)] w fun r w' => r = .returned (.agg (accC (absW (n + -m)))) ∧ Below w.heap.size w w' := by
  have k0 : AccAt (((w.alloc (.cells (accC n) 33)).alloc (.cells (accC m) 33)).alloc (.cells Tacg.zeroCells33 33)) w.heap.size n := ((accAt_box w n).alloc _).alloc _
  have k1 : AccAt (((w.alloc (.cells (accC n) 33)).alloc (.cells (accC m) 33)).alloc (.cells Tacg.zeroCells33 33)) (w.heap.size + 1) m := by
    have := accAt_box (w.alloc (.cells (accC n) 33)) m
    rw [size_alloc] at this
    exact this.alloc _
  have k2 : AccAt (((w.alloc (.cells (accC n) 33)).alloc (.cells (accC m) 33)).alloc (.cells Tacg.zeroCells33 33)) (w.heap.size + 2) 0 := by
    have := accAt_new ((w.alloc (.cells (accC n) 33)).alloc (.cells (accC m) 33))
    rwa [size_alloc, size_alloc] at this
  have kB : Below w.heap.size w (((w.alloc (.cells (accC n) 33)).alloc (.cells (accC m) 33)).alloc (.cells Tacg.zeroCells33 33)) :=
    (((Below.refl _ _).alloc (Nat.le_refl _) _).alloc (by rw [size_alloc]; omega) _).alloc (by rw [size_alloc, size_alloc]; omega) _
  have K0 := hide k0
  have K1 := hide k1
  have K2 := hide k2
  have KB := hide kB
  clear k0 k1 k2 kB
  go_enter Tacg.func20, Tacg.ntmps20
  go_wp2_with fail
  generalize ((w.alloc (.cells (accC n) 33)).alloc (.cells (accC m) 33)).alloc (.cells Tacg.zeroCells33 33) = W at *
  refine (accNeg_any _ m _ K1.out).mono ?_
  rintro e w1 ⟨rfl, d1, rfl⟩
  have k0 := hide ((K0.out.other (c := w.heap.size + 1) (by omega) (accC (-m))).drewN d1)
  have k1 := hide ((K1.out.put (-m)).drewN d1)
  have k2 := hide ((K2.out.other (c := w.heap.size + 1) (by omega) (accC (-m))).drewN d1)
  have kB := hide (below_drewN (below_putB KB.out (b := w.heap.size + 1) (by omega) (accC (-m))) d1)
  clear K0 K1 K2 KB
  generalize (putB W (w.heap.size + 1) (accC (-m))).drewN d1 = W1 at *
  clear W
  go_wp2_with fail
  refine (accAdd_any w.heap.size (w.heap.size + 1) n (-m) (by omega) _ k0.out k1.out).mono ?_
  rintro e w1 ⟨rfl, d2, rfl⟩
  have K0 := hide ((k0.out.put (n + -m)).drewN d2)
  have K2 := hide ((k2.out.other (c := w.heap.size) (by omega) (accC (n + -m))).drewN d2)
  have KB := hide (below_drewN (below_putB kB.out (b := w.heap.size) (by omega) (accC (n + -m))) d2)
  clear k0 k1 k2 kB
  generalize (putB W1 w.heap.size (accC (n + -m))).drewN d2 = W at *
  clear W1
  go_wp2_with fail
  refine (accAbs_any w.heap.size (n + -m) _ K0.out).mono ?_
  rintro e w1 ⟨rfl, d3, rfl⟩
  have k0 := (K0.out.put (absW (n + -m))).drewN d3
  have k2 := (K2.out.other (c := w.heap.size) (by omega) (accC (absW (n + -m)))).drewN d3
  have kB := (below_drewN (below_putB KB.out (b := w.heap.size) (by omega) (accC (absW (n + -m)))) d3)
  clear K0 K2 KB
  generalize (putB W w.heap.size (accC (absW (n + -m)))).drewN d3 = W1 at *
  clear W
  go_wp2_with (first | (refine wpList_load_acc rfl _ rfl _ _ rfl k0 ?_) | (refine wpList_store_acc rfl _ _ rfl _ _ _ rfl rfl k2 (accC_size _) ?_))
  refine bodyPost_ret (results_cell1 (by rfl) _ _ _ ⟨w.heap.size + 2, 0, none⟩ (.agg (accC (absW (n + -m)))) rfl (loadVar_acc (k2.put _))) rfl ⟨rfl, below_putB kB (by omega) _⟩

def loE : Nat := 874
def hiE : Nat := 1274
/-- 2^-200 and 2^200 in least units. -/
def loB : Nat := 2 ^ loE
def hiB : Nat := 2 ^ hiE

/-- What twofold hands on: a normal number, its upper part zero or between 2^-200 and 2^200. -/
structure Good (hi lo : Nat) : Prop where
  fh : Fp.Fin hi
  fl : Fp.Fin lo
  norm : fv hi = rnd 0 (fv hi + fv lo)
  least : fv hi = 0 ∨ loB ≤ (fv hi).natAbs
  most : (fv hi).natAbs ≤ hiB

theorem results_dd_bool {fn : Func} {p u : Tmp} (h : fn.results = #[.cell p 25, .tmp u]) (tmps : Array Value) (w : World) (b : Nat) (x y v : Value)
    (ha : tmps.getD p undef = .pointer (some ⟨b, 0, none⟩)) (hu : tmps.getD u undef = v) (h0 : w.cell? ⟨b, 0, none⟩ = some x) (h1 : w.cell? ⟨b, 1, none⟩ = some y) :
    (results fn tmps).run Tacg.prog w = .ok (.tuple #[.agg #[x, y], v]) w := by
  rw [results_cell_tmp h, ha]
  simp only [asAddr, Sem.run_pure, Result.andThen_ok, cells_dd h0 h1, hu]

theorem cap_200 : hiB ≤ cap := by
  unfold cap hiB
  exact Nat.pow_le_pow_right (by decide) (show hiE ≤ capE by decide)

theorem good_of (s e : Nat) (fs : Fp.Fin s) (fe : Fp.Fin e) (hn : fv s = rnd 0 (fv s + fv e)) (h : zeroOrB s (-200) 200 = true) : Good s e := by
  unfold zeroOrB at h
  rcases Bool.or_eq_true_iff.1 h with h | h
  · have hz := (zero_iff (fin_lt fs) fs).1 (by simpa using h)
    exact ⟨fs, fe, hn, Or.inl hz, by rw [hz]; exact Nat.zero_le _⟩
  · obtain ⟨h1, h2⟩ := Bool.and_eq_true_iff.1 h
    have k1 := (atLeast_iff (fin_lt fs) (-200) (by omega) h1).2
    have k2 := (atMost_iff (fin_lt fs) 200 h2).2
    rw [show (-200 + 1074 : Int).toNat = loE from rfl] at k1
    rw [show 200 + 1074 = hiE from rfl] at k2
    exact ⟨fs, fe, hn, Or.inr k1, k2⟩

set_option maxRecDepth 100000 in
set_option maxHeartbeats 2000000 in
theorem twofold_any (a b : Nat) (ha : a < 18446744073709551616) (hb : b < 18446744073709551616) (w : World) :
    Calls Tacg.prog 4 #[.int .u64 a, .int .u64 b] w fun r w' => ∃ hi lo ok, r = .returned (.tuple #[.agg #[.float .f64 hi, .float .f64 lo], .bool ok]) ∧ (ok = true → Good hi lo) ∧ Below w.heap.size w w' := by
  have ea : ((a : Int)).toNat = a := Int.toNat_natCast a
  have eb : ((b : Int)).toNat = b := Int.toNat_natCast b
  cases h1 : atMostB a 200 with
  | false =>
    go_enter Tacg.func4, Tacg.ntmps4
    go_wp2_with (first | (go_at_call 11; refine (f64_any _ _).mono ?_; rintro e w' ⟨rfl, rfl⟩) | (go_at_call_of 12 (Value.float .f64 a); refine (atMost_any a ha _ _).mono ?_; rintro e w' ⟨rfl, rfl⟩))
    refine bodyPost_ret (results_dd_bool (by rfl) _ _ w.heap.size (.float .f64 0) (.float .f64 0) (.bool false) rfl rfl (by simp [go_sem]) (by simp [go_sem])) rfl ⟨0, 0, false, rfl, (fun h => by cases h), ?_⟩
    exact (Below.refl _ _).alloc (Nat.le_refl _) _
  | true =>
    cases h2 : atMostB b 200 with
    | false =>
      go_enter Tacg.func4, Tacg.ntmps4
      go_wp2_with (first | (go_at_call 11; refine (f64_any _ _).mono ?_; rintro e w' ⟨rfl, rfl⟩) | (go_at_call_of 12 (Value.float .f64 a); refine (atMost_any a ha _ _).mono ?_; rintro e w' ⟨rfl, rfl⟩) | (go_at_call_of 12 (Value.float .f64 b); refine (atMost_any b hb _ _).mono ?_; rintro e w' ⟨rfl, rfl⟩))
      refine bodyPost_ret (results_dd_bool (by rfl) _ _ w.heap.size (.float .f64 0) (.float .f64 0) (.bool false) rfl rfl (by simp [go_sem]) (by simp [go_sem])) rfl ⟨0, 0, false, rfl, (fun h => by cases h), ?_⟩
      exact (Below.refl _ _).alloc (Nat.le_refl _) _
    | true =>
      obtain ⟨fa, ba⟩ := atMost_iff ha 200 h1
      obtain ⟨fb, bb⟩ := atMost_iff hb 200 h2
      rw [show 200 + 1074 = hiE from rfl] at ba bb
      have hc := cap_200
      unfold hiB at hc
      obtain ⟨s, x, hS, fs, fx, h3, h4⟩ := sums_exact fa fb (Nat.le_trans ba hc) (Nat.le_trans bb hc)
      have h5 : fv s + fv x = fv a + fv b := by clear ba bb hc; omega
      have hg := hide (good_of s x fs fx (by rw [h5]; exact h4))
      have hs := fin_lt fs
      clear ba bb hc h3 h4 h5 fa fb fx fs
      go_enter Tacg.func4, Tacg.ntmps4
      go_wp2_with (first | (go_at_call 11; refine (f64_any _ _).mono ?_; rintro e w' ⟨rfl, rfl⟩) | (go_at_call_of 12 (Value.float .f64 a); refine (atMost_any a ha _ _).mono ?_; rintro e w' ⟨rfl, rfl⟩) | (go_at_call_of 12 (Value.float .f64 b); refine (atMost_any b hb _ _).mono ?_; rintro e w' ⟨rfl, rfl⟩) | (go_at_call 13; refine (sums_any hS _).mono ?_; rintro e w' ⟨rfl, rfl⟩) | (go_at_call 14; refine (zeroOr_any s hs _ _ _).mono ?_; rintro e w' ⟨rfl, rfl⟩))
      refine bodyPost_ret (results_dd_bool (by rfl) _ _ w.heap.size (.float .f64 s) (.float .f64 x) (.bool (zeroOrB s (-200) 200)) rfl rfl (by simp [go_sem]) (by simp [go_sem])) rfl ⟨s, x, zeroOrB s (-200) 200, rfl, hg.out, ?_⟩
      exact (Below.refl _ _).alloc (Nat.le_refl _) _
end Go.Proofs.YgctacDoor
