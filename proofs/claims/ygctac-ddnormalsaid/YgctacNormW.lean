/-
  THE WALK of law.DDNormal.
-/
import Derived.Test.YgctacDD2
import Derived.Test.YgctacEqA
import Derived.Deep.RegionHeld3
namespace Go.Proofs.Ygctac
open Go.RowKit
open Fp (fv rnd)
set_option linter.unusedVariables false
set_option linter.unusedSimpArgs false

theorem belowT {w x y : World} (h : Below w.heap.size w x) (k : Below x.heap.size x y) : Below w.heap.size w y := h.trans (k.mono h.size)

set_option maxRecDepth 100000 in
set_option maxHeartbeats 2000000 in
theorem ddNormal_off (a b : Nat) (ha : a < 18446744073709551616) (hb : b < 18446744073709551616) (h : atMostB a 1022 = false ∨ (atMostB a 1022 = true ∧ atMostB b 1022 = false)) (w : World) :
    Calls Tacg.prog 12 #[.int .u64 a, .int .u64 b] w fun e w' => e = .returned (.bool true) ∧ Below w.heap.size w w' := by
  have ea : ((a : Int)).toNat = a := Int.toNat_natCast a
  have eb : ((b : Int)).toNat = b := Int.toNat_natCast b
  rcases h with h | ⟨h, h'⟩
  · go_enter Tacg.func12, Tacg.ntmps12
    go_wp2_with (first | (go_at_call 47; refine (f64_any _ _).mono ?_; rintro e w' ⟨rfl, rfl⟩) | (go_at_call_of 65 (Value.float .f64 a); refine (atMost_any a ha _ _).mono ?_; rintro e w' ⟨rfl, rfl⟩))
    go_ret
    exact ⟨rfl, Below.refl _ _⟩
  · go_enter Tacg.func12, Tacg.ntmps12
    go_wp2_with (first | (go_at_call 47; refine (f64_any _ _).mono ?_; rintro e w' ⟨rfl, rfl⟩) | (go_at_call_of 65 (Value.float .f64 a); refine (atMost_any a ha _ _).mono ?_; rintro e w' ⟨rfl, rfl⟩) | (go_at_call_of 65 (Value.float .f64 b); refine (atMost_any b hb _ _).mono ?_; rintro e w' ⟨rfl, rfl⟩))
    go_ret
    exact ⟨rfl, Below.refl _ _⟩

set_option maxRecDepth 100000 in
set_option maxHeartbeats 4000000 in
theorem ddNormal_on (a b s e t : Nat) (ha : a < 18446744073709551616) (hb : b < 18446744073709551616) (h1 : atMostB a 1022 = true) (h2 : atMostB b 1022 = true)
    (fa : Fp.Fin a) (fb : Fp.Fin b) (fs : Fp.Fin s) (fe : Fp.Fin e) (hS : Sums a b s e) (hadd : floatBits .add .f64 s e = some t) (hord : Ieee.double.order s t = some .eq) (hsum : av s + av e = av a + av b) (w : World) :
    Calls Tacg.prog 12 #[.int .u64 a, .int .u64 b] w fun r w' => r = .returned (.bool true) ∧ Below w.heap.size w w' := by
  have ea : ((a : Int)).toNat = a := Int.toNat_natCast a
  have eb : ((b : Int)).toNat = b := Int.toNat_natCast b
  have HS := hide hsum
  clear hsum
  go_enter Tacg.func12, Tacg.ntmps12
  go_wp2_with (first | (go_at_call 47; refine (f64_any _ _).mono ?_; rintro e w' ⟨rfl, rfl⟩) | (go_at_call_of 65 (Value.float .f64 a); refine (atMost_any a ha _ _).mono ?_; rintro e w' ⟨rfl, rfl⟩) | (go_at_call_of 65 (Value.float .f64 b); refine (atMost_any b hb _ _).mono ?_; rintro e w' ⟨rfl, rfl⟩))
  clear h1 h2
  refine (ddOf_any hS _).mono ?_
  rintro r W ⟨rfl, hW⟩
  go_wp2_with fail
  refine (ddNeg_any s e _).mono ?_
  rintro r W2 ⟨rfl, hW2⟩
  go_wp2_with fail
  rw [size_alloc] at hW2
  have z0 : (W2.alloc (.cells #[.float .f64 (flip64 s), .float .f64 (flip64 e)] 82)).cell? ⟨W.heap.size, 0, none⟩ = some (.float .f64 s) := by
    rw [World.cell?, heap_alloc_old _ _ _ (by have := hW2.size; rw [size_alloc] at this; show W.heap.size < _; omega)]
    show (match W2.heap[W.heap.size]? with | some (.cells c _ _) => _ | _ => _) = _
    rw [hW2.block _ (by omega), heap_alloc_last]; rfl
  have z1 : (W2.alloc (.cells #[.float .f64 (flip64 s), .float .f64 (flip64 e)] 82)).cell? ⟨W.heap.size, 1, none⟩ = some (.float .f64 e) := by
    rw [World.cell?, heap_alloc_old _ _ _ (by have := hW2.size; rw [size_alloc] at this; show W.heap.size < _; omega)]
    show (match W2.heap[W.heap.size]? with | some (.cells c _ _) => _ | _ => _) = _
    rw [hW2.block _ (by omega), heap_alloc_last]; rfl
  have n0 : (W2.alloc (.cells #[.float .f64 (flip64 s), .float .f64 (flip64 e)] 82)).cell? ⟨W2.heap.size, 0, none⟩ = some (.float .f64 (flip64 s)) := by
    rw [World.cell?, heap_alloc_last]; rfl
  have n1 : (W2.alloc (.cells #[.float .f64 (flip64 s), .float .f64 (flip64 e)] 82)).cell? ⟨W2.heap.size, 1, none⟩ = some (.float .f64 (flip64 e)) := by
    rw [World.cell?, heap_alloc_last]; rfl
  have hs1 := hW.size
  have hs2 := hW2.size
  rw [size_alloc] at hs2
  have hB : Below w'.heap.size w' (W2.alloc (.cells #[.float .f64 (flip64 s), .float .f64 (flip64 e)] 82)) :=
    ((hW.alloc (by omega) _).trans (hW2.mono (by omega))).alloc (by omega) _
  clear hW hW2 hs1 hs2
  generalize W2.alloc (.cells #[.float .f64 (flip64 s), .float .f64 (flip64 e)] 82) = W3 at *
  generalize W.heap.size = bz at *
  generalize W2.heap.size = bn at *
  clear W W2
  have x1 : bits .xor .u64 (s : Int) 9223372036854775808 = ((flip64 s : Nat) : Int) := u64_xor_nat s 9223372036854775808 (fin_lt fs) (by decide)
  have x2 : bits .xor .u64 (e : Int) 9223372036854775808 = ((flip64 e : Nat) : Int) := u64_xor_nat e 9223372036854775808 (fin_lt fe) (by decide)
  have hq := run_eql_acc (av a + av b)
  go_region_held3 (fun x => x.cell? ⟨bz, 0, none⟩ = some (.float .f64 s) ∧ x.cell? ⟨bz, 1, none⟩ = some (.float .f64 e) ∧ x.cell? ⟨bn, 0, none⟩ = some (.float .f64 (flip64 s)) ∧ x.cell? ⟨bn, 1, none⟩ = some (.float .f64 (flip64 e)) ∧ Below w'.heap.size w' x)
    (first
      | (exact ⟨z0, z1, n0, n1, hB.drew⟩)
      | (obtain ⟨i1, i2, i3, i4, i5⟩ := ‹_ ∧ _ ∧ _ ∧ _ ∧ Below _ _ _›; exact ⟨below_keeps hx i1, below_keeps hx i2, below_keeps hx i3, below_keeps hx i4, belowT i5 hx⟩)
      | assumption)
    (first
      | (go_at_call 59; refine (normalDD_true s e t (fin_lt fs) fs (fin_lt fe) fe hadd hord _).mono ?_; rintro r x ⟨rfl, hx⟩)
      | (go_at_call 54; refine (accDD_any s e (fin_lt fs) fs (fin_lt fe) fe _).mono ?_; rintro r x ⟨rfl, hx⟩; rw [HS.out])
      | (go_at_call 68; refine (accSum_any a b (fin_lt fa) fa (fin_lt fb) fb _).mono ?_; rintro r x ⟨rfl, hx⟩)
      | (go_at_call 69; refine (b64_any _ _).mono ?_; rintro r x ⟨rfl, rfl⟩))
  have hE : Below w'.heap.size w' x := (‹_ ∧ _ ∧ _ ∧ _ ∧ Below w'.heap.size w' x›).2.2.2.2
  go_wp2
  go_ret
  exact ⟨rfl, hE⟩

theorem av_add (a b : Nat) : av a + av b = (fv a + fv b) * 2 ^ 1074 := by unfold av; rw [Int.add_mul]

theorem ddNormal_any (a b : Nat) (ha : a < 18446744073709551616) (hb : b < 18446744073709551616) (w : World) :
    Calls Tacg.prog 12 #[.int .u64 a, .int .u64 b] w fun r w' => r = .returned (.bool true) ∧ Below w.heap.size w w' := by
  cases h1 : atMostB a 1022 with
  | false => exact ddNormal_off a b ha hb (Or.inl h1) w
  | true =>
    cases h2 : atMostB b 1022 with
    | false => exact ddNormal_off a b ha hb (Or.inr ⟨h1, h2⟩) w
    | true =>
      obtain ⟨fa, ba⟩ := atMost_iff ha 1022 h1
      obtain ⟨fb, bb⟩ := atMost_iff hb 1022 h2
      have e : 2 ^ (1022 + 1074) = cap := by unfold cap; rw [show 1022 + 1074 = capE from rfl]
      rw [e] at ba bb
      obtain ⟨s, x, hS, fs, fx, h3, h4⟩ := sums_exact fa fb ba bb
      have h5 : fv s + fv x = fv a + fv b := by omega
      obtain ⟨t, t1, t2⟩ := normal_of fs fx (by rw [h5]; exact h4) (by rw [h5]; have := cap_pos; omega)
      exact ddNormal_on a b s x t ha hb h1 h2 fa fb fs fx hS t1 t2 (by rw [av_add, av_add, h5]) w
end Go.Proofs.Ygctac
