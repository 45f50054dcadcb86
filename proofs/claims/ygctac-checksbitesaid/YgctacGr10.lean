/-
  ntt.Below, law.biteElem.
-/
import Derived.Test.YgctacGr9
namespace Go.Proofs.Ygctac
open Go.RowKit
open Fp (fv)
set_option linter.unusedVariables false
set_option linter.unusedSimpArgs false

def elX (z : Nat → Nat) : Nat → Value := fun i => .int .u32 (z i)
set_option maxRecDepth 100000 in
set_option maxHeartbeats 4000000 in
theorem below_yes (g n : Nat) (z : Nat → Nat) (hn : n ≤ 4096) (hz : ∀ i, i < n → z i < 998244353) (w : World) (hs : ARow w g n 129 (elX z)) :
    Calls Tacg.prog 97 #[.slice (some ⟨g, 0, none⟩) n n] w fun r w' => r = .returned (.bool true) ∧ w' = w := by
  have HS := hide hs
  have HZ := hide hz
  clear hs hz
  go_enter Tacg.func97, Tacg.ntmps97
  go_wp2_with fail
  go_loopw [3] (fun s6 w1 => ∃ (i : Nat), s6 = .int .i64 i ∧ i ≤ n ∧ w1 = w) (fun s6 _ => n - (intOf s6).toNat)
  case atStart => exact ⟨0, rfl, by omega, rfl⟩
  case round =>
    obtain ⟨i, rfl, hi, hw⟩ := hrel
    obtain rfl := hw.symm
    clear hw
    by_cases ci : i < n
    · have c' : (i : Int) < (n : Int) := by omega
      have hcx := HS.out.cell ci
      simp only [elX] at hcx
      have t : ¬ (998244353 : Int) ≤ (z i : Int) := by have := HZ.out i ci; omega
      go_wp2_with fail
      go_roundw
      case rel => exact ⟨i + 1, by go_num, by omega, trivial⟩
      case measure => simp [intOf] <;> omega
    · obtain rfl : i = n := by omega
      go_wp2_with fail
      go_ret
      exact ⟨rfl, rfl⟩
set_option maxRecDepth 100000 in
set_option maxHeartbeats 4000000 in
theorem below_not (g n k : Nat) (z : Nat → Nat) (hn : n ≤ 4096) (hk : k < n) (hz : ∀ i, i < n → i ≠ k → z i < 998244353) (hzk : 998244353 ≤ z k) (w : World) (hs : ARow w g n 129 (elX z)) :
    Calls Tacg.prog 97 #[.slice (some ⟨g, 0, none⟩) n n] w fun r w' => r = .returned (.bool false) ∧ w' = w := by
  have HS := hide hs
  have HZ := hide hz
  clear hs hz
  go_enter Tacg.func97, Tacg.ntmps97
  go_wp2_with fail
  go_loopw [3] (fun s6 w1 => ∃ (i : Nat), s6 = .int .i64 i ∧ i ≤ k ∧ w1 = w) (fun s6 _ => n - (intOf s6).toNat)
  case atStart => exact ⟨0, rfl, by omega, rfl⟩
  case round =>
    obtain ⟨i, rfl, hi, hw⟩ := hrel
    obtain rfl := hw.symm
    clear hw
    have ci : i < n := by omega
    have c' : (i : Int) < (n : Int) := by omega
    have hcx := HS.out.cell ci
    simp only [elX] at hcx
    by_cases ck : i < k
    · have t : ¬ (998244353 : Int) ≤ (z i : Int) := by have := HZ.out i ci (by omega); omega
      go_wp2_with fail
      go_roundw
      case rel => exact ⟨i + 1, by go_num, by omega, trivial⟩
      case measure => simp [intOf] <;> omega
    · obtain rfl : i = k := by omega
      have t : (998244353 : Int) ≤ (z i : Int) := by omega
      go_wp2_with fail
      go_ret
      exact ⟨rfl, rfl⟩

theorem elem_of (x : Nat) : IntKind.u32.wrap ((x : Int).tmod 998244353) = ((x % 998244353 : Nat) : Int) := by
  rw [Int.tmod_eq_emod_of_nonneg (by omega)]
  simp [IntKind.wrap, IntKind.bits, IntKind.signed]
  omega
theorem elem_up (x : Nat) (h : x < 998244353) : IntKind.u32.wrap ((x : Int) + 998244353) = ((x + 998244353 : Nat) : Int) := by
  simp [IntKind.wrap, IntKind.bits, IntKind.signed]
  omega
def elv (f : Nat → Nat) : Nat → Nat := fun i => f i % 998244353

set_option maxRecDepth 100000 in
set_option maxHeartbeats 4000000 in
theorem biteElem_any (p : Option Addr) (n c which : Nat) (f : Nat → Nat) (hn : n < 140737488355328) (hc : n ≤ c) (hwh : which ≤ 255) (w : World) (hs : SlV w p n (ulX f)) :
    Calls Tacg.prog 32 #[.slice p n c, .int .i64 which] w fun r w' => r = .returned (.bool true) ∧ Below w.heap.size w w' := by
  by_cases h0 : n = 0
  · subst h0
    go_enter Tacg.func32, Tacg.ntmps32
    go_wp2_with fail
    go_ret
    exact ⟨rfl, Below.refl _ _⟩
  have t0 : ¬ (n : Int) = 0 := by omega
  by_cases hbig : 1024 < n
  · have t1 : (1024 : Int) < (n : Int) := by omega
    have t2 : (1024 : Int) ≤ (c : Int) := by omega
    have rm : ∀ w : World, (Instr.makeSlice 128 (.int .i64 1024) (.int .i64 1024)).run Tacg.prog w = .ok (.slice (some ⟨w.heap.size, 0, none⟩) 1024 1024) (w.alloc (.cells (madeCells #[.int .u32 0] 1024) 129)) := make128 1024 (by omega)
    obtain ⟨b, o, rfl, -⟩ := hs 0 (by omega)
    have HS := hide hs
    clear hs
    go_enter Tacg.func32, Tacg.ntmps32
    go_wp2_with fail
    go_loopw [6] (fun s6 w1 => ∃ (i : Nat) (W : World), s6 = .int .i64 i ∧ i ≤ 1024 ∧ w1 = W ∧ Hid (ARow W w.heap.size 1024 129 (upTo i (elX (elv f)) fun _ => .int .u32 0)) ∧ Hid (Below w.heap.size w W)) (fun s6 _ => 1024 - (intOf s6).toNat)
    case atStart => exact ⟨0, _, rfl, by omega, rfl, hide (ARow.new w 1024 129 _).none, hide ((Below.refl _ _).alloc (Nat.le_refl _) _)⟩
    case round =>
      obtain ⟨i, W, rfl, hi, hw, hR, hB⟩ := hrel
      obtain rfl := hw.symm
      clear hw rm
      by_cases ci : i < 1024
      · have c' : (i : Int) < 1024 := by omega
        obtain ⟨b2, o2, hp, hcx⟩ := (HS.out.below hB.out) i (by omega)
        simp only [ulX] at hcx
        have hcy := hR.out.cell ci
        rw [upTo, if_neg (by omega)] at hcy
        have hfy := hR.out.frozen i
        have he := elem_of (f i)
        cases hp
        go_wp2_with fail
        go_roundw
        case rel => exact ⟨i + 1, _, by go_num, by omega, rfl, hide (hR.out.push ci rfl), hide (hB.out.setCell (p := ⟨w.heap.size, i, none⟩) (Nat.le_refl _) _)⟩
        case measure => simp [intOf] <;> omega
      · obtain rfl : i = 1024 := by omega
        have hA := hide hR.out.full
        clear hR
        go_wp2_with fail
        refine (below_yes w.heap.size 1024 (elv f) (by omega) (fun j hj => Nat.mod_lt _ (by decide)) _ hA.out).mono ?_
        rintro e w' ⟨rfl, hw⟩; obtain rfl := hw.symm; clear hw
        obtain ⟨k, hk, hkn⟩ : ∃ k, k = which % 1024 ∧ k < 1024 := ⟨_, rfl, Nat.mod_lt _ (by omega)⟩
        have q1 : (which : Int).tmod 1024 = (k : Int) := by rw [Int.tmod_eq_emod_of_nonneg (by omega)]; omega
        have q2 : (k : Int) < 1024 := by omega
        have hck := hA.out.cell hkn
        simp only [elX] at hck
        have hfk := hA.out.frozen k
        have hlt : elv f k < 998244353 := Nat.mod_lt _ (by decide)
        have hup := elem_up (elv f k) hlt
        have HK := hide hk
        clear hk
        have hA2 := hA.out.set hkn (.int .u32 ((elv f k + 998244353 : Nat) : Int))
        have hA3 : ARow (W.setCell ⟨w.heap.size, k, none⟩ (.int .u32 ((elv f k + 998244353 : Nat) : Int))) w.heap.size 1024 129 (elX (fun j => if j = k then elv f k + 998244353 else elv f j)) := by
          refine hA2.congr fun j hj => ?_
          simp only [elX]
          split <;> rfl
        have hB3 := hB.out.setCell (p := ⟨w.heap.size, k, none⟩) (Nat.le_refl _) (.int .u32 ((elv f k + 998244353 : Nat) : Int))
        have HA := hide (And.intro hA3 hB3)
        clear hA2 hA3 hB3
        go_wp2_with fail
        refine (below_not w.heap.size 1024 k (fun j => if j = k then elv f k + 998244353 else elv f j) (by omega) hkn (fun j hj hne => by simp only [hne, if_false]; exact Nat.mod_lt _ (by decide)) (by simp only [if_true]; omega) _ HA.out.1).mono ?_
        rintro e w' ⟨rfl, hw⟩; obtain rfl := hw.symm; clear hw
        go_wp2_with fail
        go_ret
        exact ⟨rfl, HA.out.2⟩
  · have t1 : ¬ (1024 : Int) < (n : Int) := by omega
    have rm := make128 n (by omega)
    have HS := hide hs
    clear hs
    go_enter Tacg.func32, Tacg.ntmps32
    go_wp2_with fail
    go_loopw [6] (fun s6 w1 => ∃ (i : Nat) (W : World), s6 = .int .i64 i ∧ i ≤ n ∧ w1 = W ∧ Hid (ARow W w.heap.size n 129 (upTo i (elX (elv f)) fun _ => .int .u32 0)) ∧ Hid (Below w.heap.size w W)) (fun s6 _ => n - (intOf s6).toNat)
    case atStart => exact ⟨0, _, rfl, by omega, rfl, hide (ARow.new w n 129 _).none, hide ((Below.refl _ _).alloc (Nat.le_refl _) _)⟩
    case round =>
      obtain ⟨i, W, rfl, hi, hw, hR, hB⟩ := hrel
      obtain rfl := hw.symm
      clear hw rm
      by_cases ci : i < n
      · have c' : (i : Int) < (n : Int) := by omega
        obtain ⟨b2, o2, hp, hcx⟩ := (HS.out.below hB.out) i (by omega)
        simp only [ulX] at hcx
        have hcy := hR.out.cell ci
        rw [upTo, if_neg (by omega)] at hcy
        have hfy := hR.out.frozen i
        have he := elem_of (f i)
        subst hp
        go_wp2_with fail
        go_roundw
        case rel => exact ⟨i + 1, _, by go_num, by omega, rfl, hide (hR.out.push ci rfl), hide (hB.out.setCell (p := ⟨w.heap.size, i, none⟩) (Nat.le_refl _) _)⟩
        case measure => simp [intOf] <;> omega
      · obtain rfl : i = n := by omega
        have hA := hide hR.out.full
        clear hR
        go_wp2_with fail
        refine (below_yes w.heap.size i (elv f) (by omega) (fun j hj => Nat.mod_lt _ (by decide)) _ hA.out).mono ?_
        rintro e w' ⟨rfl, hw⟩; obtain rfl := hw.symm; clear hw
        obtain ⟨k, hk, hkn⟩ : ∃ k, k = which % i ∧ k < i := ⟨_, rfl, Nat.mod_lt _ (by omega)⟩
        have q1 : (which : Int).tmod (i : Int) = (k : Int) := by rw [Int.tmod_eq_emod_of_nonneg (by omega)]; omega
        have q2 : (k : Int) < (i : Int) := by omega
        have hck := hA.out.cell hkn
        simp only [elX] at hck
        have hfk := hA.out.frozen k
        have hlt : elv f k < 998244353 := Nat.mod_lt _ (by decide)
        have hup := elem_up (elv f k) hlt
        have HK := hide hk
        clear hk
        have hA2 := hA.out.set hkn (.int .u32 ((elv f k + 998244353 : Nat) : Int))
        have hA3 : ARow (W.setCell ⟨w.heap.size, k, none⟩ (.int .u32 ((elv f k + 998244353 : Nat) : Int))) w.heap.size i 129 (elX (fun j => if j = k then elv f k + 998244353 else elv f j)) := by
          refine hA2.congr fun j hj => ?_
          simp only [elX]
          split <;> rfl
        have hB3 := hB.out.setCell (p := ⟨w.heap.size, k, none⟩) (Nat.le_refl _) (.int .u32 ((elv f k + 998244353 : Nat) : Int))
        have HA := hide (And.intro hA3 hB3)
        clear hA2 hA3 hB3
        go_wp2_with fail
        refine (below_not w.heap.size i k (fun j => if j = k then elv f k + 998244353 else elv f j) (by omega) hkn (fun j hj hne => by simp only [hne, if_false]; exact Nat.mod_lt _ (by decide)) (by simp only [if_true]; omega) _ HA.out.1).mono ?_
        rintro e w' ⟨rfl, hw⟩; obtain rfl := hw.symm; clear hw
        go_wp2_with fail
        go_ret
        exact ⟨rfl, HA.out.2⟩

end Go.Proofs.Ygctac
