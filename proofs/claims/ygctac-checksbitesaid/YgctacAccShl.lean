/-
  (*Acc).Shl, acc.Cmp.
-/
import Derived.Test.YgctacAccOps
import Derived.Deep.QuietTactic
import Derived.BigQuiet
import Derived.Deep.DeepCutAuto
namespace Go.Proofs.Ygctac
open Go.RowKit
set_option linter.unusedVariables false
set_option linter.unusedSimpArgs false

theorem shl_or (x y : Int) (s : Nat) (hs : s < 64) (hx : 0 ≤ x) (hy : 0 ≤ y) (hy' : y < 18446744073709551616) :
    bits BinOp.or IntKind.u64 (IntKind.u64.wrap (x * 2 ^ s)) (y / 2 ^ (64 - s)) = (x * 2 ^ s) % 18446744073709551616 + y / 2 ^ (64 - s) := by
  rw [wrap_u64]
  have c1 : 0 ≤ y / 2 ^ (64 - s) := Int.ediv_nonneg hy (Int.le_of_lt (pp _))
  have c2 : y / 2 ^ (64 - s) < 2 ^ s := by
    apply Int.ediv_lt_of_lt_mul (pp _)
    rw [← pp_add, show s + (64 - s) = 64 from by omega]
    exact hy'
  have c3 : y / 2 ^ (64 - s) ≤ y := Int.ediv_le_self _ hy
  exact or_words _ _ s (by omega) (by omega) (by omega) (split_shift x s (by omega) hx).2 c1 c2 (by omega)

set_option maxRecDepth 100000 in
set_option maxHeartbeats 4000000 in
theorem accShl_any (b : Nat) (n : Int) (k : Nat) (hk : k < 65536) (w : World) (hA : AccAt w b n) :
    Calls Tacg.prog 57 #[.pointer (some ⟨b, 0, none⟩), .int .u16 k] w fun r w' => r = .returned (.tuple #[]) ∧ ∃ d, w' = (putB w b (accC (n * 2 ^ k))).drewN d := by
  have H0 : Hid (AccAt w b n) := hA
  clear hA
  have hk1 : (k : Int) < 65536 := by omega
  obtain ⟨W, HW⟩ : ∃ W : Nat, Hid (W = k / 64) := ⟨_, rfl⟩
  obtain ⟨s, HS⟩ : ∃ s : Nat, Hid (s = k % 64) := ⟨_, rfl⟩
  obtain ⟨N, HN⟩ : ∃ N : Int, Hid (N = n * 2 ^ k) := ⟨_, rfl⟩
  have eW : (k : Int) / 64 = (W : Int) := by rw [HW.out]; rfl
  have eS : (k : Int) % 64 = (s : Int) := by rw [HS.out]; rfl
  have hs : (s : Int) < 64 := by omega
  have hW : (W : Int) < 1024 := by omega
  go_enter Tacg.func57, Tacg.ntmps57
  go_wp2
  clear eW eS hk hk1
  go_loopw [6, 7] (fun s6 _ w1 => ∃ (z K : Int) (d : Nat), s6 = .int .i64 z ∧ -1 ≤ z ∧ z ≤ 67 ∧ Hid (∀ j : Nat, j < 68 → wd K j = if z < j then wd N j else wd n j) ∧ w1 = (putB w b (accC K)).drewN d) (fun s6 _ _ => (intOf s6 + 1).toNat)
  case atStart =>
    refine ⟨67, n, 0, rfl, by omega, by omega, ?_, ?_⟩
    · intro j hj; rw [if_neg (by omega)]
    · rw [H0.out.put_self]; rfl
  case round =>
    obtain ⟨z, K, d, rfl, z0, z1, HK, rfl⟩ := hrel
    have hA := H0.out.put K
    by_cases hz : 0 ≤ z
    · obtain ⟨i, rfl⟩ := Int.eq_ofNat_of_zero_le hz
      have HA := hide hA
      have hi : (i : Int) < 68 := by omega
      by_cases c1 : i < W
      · have hf := hA.frozen i
        have hc := hA.cell i (by omega)
        have t1 : (i : Int) < (W : Int) := by omega
        clear hA
        go_wp2
        go_roundw
        case rel =>
          refine ⟨_, K + (0 - wd K i) * 2 ^ (64 * i), d, rfl, by omega, by omega, ?_, HA.out.setCell_pd i 0 (by decide) (by decide) _⟩
          intro j hj
          rw [wd_set K 0 i j (by decide) (by decide), HK.out j hj]
          by_cases e : j = i
          · subst e
            rw [if_pos rfl, if_pos (by omega), HN.out, wd_shl_low n k j (by rw [← HW.out]; exact c1)]
          · rw [if_neg e]
            by_cases e2 : (i : Int) < j
            · rw [if_pos e2, if_pos (by omega)]
            · rw [if_neg e2, if_neg (by omega)]
        case measure => simp [intOf]
      · obtain ⟨t, rfl⟩ := Nat.exists_eq_add_of_le' (show W ≤ i by omega)
        rcases t with _ | t
        · rw [Nat.zero_add] at *
          have hf := hA.frozen W
          have hc := hA.cell W (by omega)
          have hcj := hA.cell 0 (by omega)
          clear hA
          go_wp2
          go_roundw
          case rel =>
            have e : IntKind.u64.wrap (wd K 0 * 2 ^ (k % 64)) = wd N W := by
              rw [wrap_u64, HK.out 0 (by omega), if_neg (by omega), HN.out, HW.out, wd_shl_0]
            rw [e]
            refine ⟨_, K + (wd N W - wd K W) * 2 ^ (64 * W), d, rfl, by omega, by omega, ?_, HA.out.setCell_pd W _ (wd_nonneg _ _) (wd_lt _ _) _⟩
            intro j hj
            rw [wd_set K _ W j (wd_nonneg _ _) (wd_lt _ _), HK.out j hj]
            by_cases e1 : j = W
            · subst e1
              rw [if_pos rfl, if_pos (by omega)]
            · rw [if_neg e1]
              by_cases e2 : (W : Int) < j
              · rw [if_pos e2, if_pos (by omega)]
              · rw [if_neg e2, if_neg (by omega)]
          case measure => simp [intOf]
        · have hf := hA.frozen (t + 1 + W)
          have hc := hA.cell (t + 1 + W) (by omega)
          have hcj := hA.cell (t + 1) (by omega)
          have hcj2 := hA.cell t (by omega)
          have t1 : ¬ ((t : Int) + 1 + (W : Int) < (W : Int)) := by omega
          have t2 : ((W : Int) < (t : Int) + 1 + (W : Int)) := by omega
          clear hA
          go_wp2
          go_roundw
          case rel =>
            have e : bits BinOp.or IntKind.u64 (IntKind.u64.wrap (wd K (t + 1) * 2 ^ (k % 64))) (wd K t / 2 ^ (64 - k % 64)) = wd N (t + 1 + W) := by
              rw [shl_or _ _ _ (Nat.mod_lt _ (by decide)) (wd_nonneg _ _) (wd_nonneg _ _) (wd_lt _ _), HK.out (t + 1) (by omega), HK.out t (by omega), if_neg (by omega), if_neg (by omega), HN.out, HW.out, wd_shl_succ]
            rw [e]
            refine ⟨_, K + (wd N (t + 1 + W) - wd K (t + 1 + W)) * 2 ^ (64 * (t + 1 + W)), d, rfl, by omega, by omega, ?_, HA.out.setCell_pd (t + 1 + W) _ (wd_nonneg _ _) (wd_lt _ _) _⟩
            intro j hj
            rw [wd_set K _ (t + 1 + W) j (wd_nonneg _ _) (wd_lt _ _), HK.out j hj]
            by_cases e1 : j = t + 1 + W
            · subst e1
              rw [if_pos rfl, if_pos (by omega)]
            · rw [if_neg e1]
              by_cases e2 : ((t + 1 + W : Nat) : Int) < j
              · rw [if_pos e2, if_pos (by omega)]
              · rw [if_neg e2, if_neg (by omega)]
          case measure => simp [intOf]; omega
    · obtain rfl : z = -1 := by omega
      clear hA
      go_wp2
      go_end0
      refine ⟨rfl, d, ?_⟩
      rw [accC_ext (n := K) (m := N) (fun j hj => by rw [HK.out j hj, if_pos (by omega)]), HN.out]
end Go.Proofs.Ygctac
