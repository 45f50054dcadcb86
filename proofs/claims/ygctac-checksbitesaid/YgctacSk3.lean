/-
  nat.Sub of any two normal numbers: what form the answer has.
-/
import Derived.Test.YgctacSk2
namespace Go.Proofs.Ygctac
open Go.RowKit
set_option linter.unusedVariables false
set_option linter.unusedSimpArgs false

set_option maxRecDepth 100000 in
set_option maxHeartbeats 4000000 in
theorem sub_sl (p q : Option Addr) (n m : Nat) (hn : n ≤ 140737488355328) (hm : m ≤ 140737488355328) (w : World) (h : Sl w p n) (h' : Sl w q m) :
    Calls Tacg.prog 34 #[.slice p n n, .slice q m m] w fun r w' => ∃ x t, r = .returned (.tuple #[x, .bool t]) ∧ NatB w' x w.heap.size n ∧ Below w.heap.size w w' := by
  have HU := hide (trim_sl hn h)
  have HV := hide (trim_sl hm h')
  have HC := hide (cmp_sl p q n m hn hm w h h')
  have H := hide h
  have H' := hide h'
  have rm := make23 n (by omega)
  clear h h'
  go_enter Tacg.func34, Tacg.ntmps34
  go_wp2_with fail
  refine HU.out.mono ?_
  rintro e w' ⟨rfl, hw⟩; obtain rfl := hw.symm
  go_wp2_with fail
  refine HV.out.mono ?_
  rintro e w' ⟨rfl, hw⟩; obtain rfl := hw.symm
  clear HU HV hw
  go_wp2_with fail
  refine HC.out.mono ?_
  rintro e w1 ⟨z, rfl, z0, z1, d, hw⟩
  have hB1 : Below w.heap.size w w1 := by rw [hw]; exact below_dN (Below.refl _ _) _
  have hs1 : w1.heap.size = w.heap.size := by rw [hw]; rfl
  have HB1 := hide hB1
  have HS := hide hs1
  clear hw hB1 HC hs1
  by_cases c : z < 0
  · go_wp2_with fail
    go_ret2
    exact ⟨_, _, rfl, .inl rfl, HB1.out⟩
  · go_wp2_with fail
    go_loopw [7, 8, 9] (fun s7 s8 s9 w2 => ∃ (c : Int) (i : Nat) (k : Nat → Int) (W : World), s7 = .int .u16 c ∧ s8 = .int .i64 i ∧ i ≤ n ∧ w2 = W ∧ Hid (Dg k n) ∧ Hid (RowAt W w1.heap.size n k) ∧ Hid (Below w.heap.size w W)) (fun _ s8 _ _ => n - (intOf s8).toNat)
    case atStart => exact ⟨0, 0, _, _, rfl, rfl, by omega, rfl, hide (Dg.zero _), RowAt.new w1 n _, HB1.out.alloc (by have := HS.out; omega) _⟩
    case round =>
      obtain ⟨cc, i, k, W, rfl, rfl, hi, hw, hK, hR, hB⟩ := hrel
      obtain rfl := hw.symm
      clear hw rm
      by_cases ci : i < n
      · have ci' : (i : Int) < (n : Int) := by omega
        have hco := hR.out.cell i (by omega)
        have hfo := hR.out.frozen i
        obtain ⟨b, o, z, rfl, z0, z1, hz⟩ := (H.out.below hB.out).cell ci
        by_cases cj : i < m
        · have cj' : (i : Int) < (m : Int) := by omega
          obtain ⟨b', o', z', rfl, z0', z1', hz'⟩ := (H'.out.below hB.out).cell cj
          go_wp2_with fail
          go_roundw
          case rel => exact ⟨_, i + 1, _, _, rfl, by go_num, by omega, rfl, hide (hK.out.put i (Int.emod_nonneg _ (by decide)) (Int.emod_lt_of_pos _ (by decide))), hide (hR.out.set i (by omega) _), hide (hB.out.setCell (p := ⟨w1.heap.size, i, none⟩) (by show w.heap.size ≤ w1.heap.size; have := HS.out; omega) _)⟩
          case measure => simp [intOf] <;> omega
        · have cj' : ¬ (i : Int) < (m : Int) := by omega
          go_wp2_with fail
          go_roundw
          case rel => exact ⟨_, i + 1, _, _, rfl, by go_num, by omega, rfl, hide (hK.out.put i (Int.emod_nonneg _ (by decide)) (Int.emod_lt_of_pos _ (by decide))), hide (hR.out.set i (by omega) _), hide (hB.out.setCell (p := ⟨w1.heap.size, i, none⟩) (by show w.heap.size ≤ w1.heap.size; have := HS.out; omega) _)⟩
          case measure => simp [intOf] <;> omega
      · obtain rfl : i = n := by omega
        go_wp2_with fail
        refine (trim_any w1.heap.size 0 i i k (Nat.le_refl _) (by omega) _ hR.out.cells).mono ?_
        rintro e w' ⟨rfl, hw⟩; obtain rfl := hw.symm
        go_wp2_with fail
        go_ret2
        exact ⟨_, _, rfl, natB_trimV (by omega) (by have := HS.out; omega) hK.out hR.out.own, hB.out⟩
end Go.Proofs.Ygctac
