/-
  What changes one block alone; ntt.level, ntt.reverse.
-/
import Derived.Test.YgctacNt1
import Derived.RegionTactic
namespace Go.Proofs.Ygctac
open Go.RowKit Cx
set_option linter.unusedVariables false
set_option linter.unusedSimpArgs false

/-- Of the blocks that were, block g alone has changed. -/
def Only (g : Nat) (w w' : World) : Prop := Below g w w' ∧ ∀ b, g < b → b < w.heap.size → w'.heap[b]? = w.heap[b]?
theorem Only.refl (g : Nat) (w : World) : Only g w w := ⟨Below.refl _ _, fun _ _ _ => rfl⟩
theorem Only.trans {g : Nat} {w w1 w2 : World} (h : Only g w w1) (h' : Only g w1 w2) : Only g w w2 :=
  ⟨h.1.trans h'.1, fun b hb hs => (h'.2 b hb (Nat.lt_of_lt_of_le hs h.1.size)).trans (h.2 b hb hs)⟩
theorem Only.set {g : Nat} {w w1 : World} (h : Only g w w1) {a : Addr} (ha : a.block = g) (v : Value) : Only g w (w1.setCell a v) :=
  ⟨h.1.setCell (by rw [ha]; exact Nat.le_refl _) v, fun b hb hs => by
    rw [Below.heap_setCell _ _ _ _ (by omega)]; exact h.2 b hb hs⟩
theorem Only.drewN {g : Nat} {w w1 : World} (h : Only g w w1) (d : Nat) : Only g w (w1.drewN d) := ⟨below_dN h.1 d, h.2⟩
theorem Only.ext {g : Nat} {w w1 w2 : World} (h : Only g w w1) (hb : Below w1.heap.size w1 w2) (hg : g ≤ w1.heap.size) : Only g w w2 :=
  ⟨h.1.trans (hb.mono hg), fun b hb' hs => (hb.block b (Nat.lt_of_lt_of_le hs h.1.size)).trans (h.2 b hb' hs)⟩
theorem RowP.only {w w' : World} {b g n : Nat} {t : TypeId} {P : Value → Prop} (h : RowP w b n t P) (ho : Only g w w') (hne : b ≠ g) : RowP w' b n t P := by
  have hl := h.lt
  obtain ⟨C, h1, h2⟩ := h
  refine ⟨C, ?_, h2⟩
  rcases Nat.lt_or_gt_of_ne hne with c | c
  · exact (ho.1.block b c).trans h1
  · exact (ho.2 b c hl).trans h1

set_option maxRecDepth 100000 in
set_option maxHeartbeats 1000000 in
theorem level153 (k : Nat) (hk : k ≤ 11) (w : World) : Calls Tacg.prog 153 #[.int .i64 (p2 k : Int)] w fun r w' => r = .returned (.int .i64 k) ∧ w' = w := by
  go_enter Tacg.func153, Tacg.ntmps153
  go_wp2_with fail
  go_loopw [3] (fun s3 w1 => ∃ j : Nat, s3 = .int .i64 j ∧ j ≤ k ∧ w1 = w) (fun s3 _ => 12 - (intOf s3).toNat)
  case atStart => exact ⟨0, rfl, by omega, rfl⟩
  case round =>
    obtain ⟨j, rfl, hj, hw⟩ := hrel
    obtain rfl := hw.symm
    have t1 : (j : Int) ≤ 11 := by omega
    have hp := wrap_p2 j (by omega)
    by_cases c : j = k
    · subst c
      go_wp2_with fail
      go_ret
      exact ⟨rfl, rfl⟩
    · have hne : ¬ (p2 k : Int) = (p2 j : Int) := by
        have := p2_lt (show j < k by omega)
        omega
      go_wp2_with fail
      go_roundw
      case rel => exact ⟨j + 1, by go_num, by omega, by first | rfl | trivial⟩
      case measure => simp [intOf] <;> omega

set_option maxRecDepth 100000 in
set_option maxHeartbeats 4000000 in
theorem reverse176 (g k : Nat) (hk : k ≤ 11) (w : World) (h : RowP w g (p2 k) 129 IsU32) :
    Calls Tacg.prog 176 #[.slice (some ⟨g, 0, none⟩) (p2 k) (p2 k)] w fun r w' => r = .returned (.tuple #[]) ∧ RowP w' g (p2 k) 129 IsU32 ∧ Only g w w' := by
  have hp := p2_le hk
  have hpos := p2_pos k
  have HR := hide h
  clear h
  go_enter Tacg.func176, Tacg.ntmps176
  go_wp2_with fail
  go_loopw [2, 3, 4] (fun s2 s3 s4 w1 => ∃ (j i : Nat) (W : World), s2 = .int .i64 j ∧ s3 = .int .i64 i ∧ j < p2 k ∧ i ≤ p2 k ∧ w1 = W ∧ Hid (RowP W g (p2 k) 129 IsU32) ∧ Hid (Only g w W)) (fun _ s3 _ _ => p2 k - (intOf s3).toNat)
  case atStart => exact ⟨0, 0, w, rfl, rfl, hpos, by omega, rfl, HR, hide (Only.refl _ _)⟩
  case round =>
    obtain ⟨j, i, W, rfl, rfl, hj, hi, hw, hR, hB⟩ := hrel
    obtain rfl := hw.symm
    clear hw HR
    by_cases ci : i < p2 k
    · have ci' : (i : Int) < (p2 k : Int) := by omega
      have hj' : (j : Int) < (p2 k : Int) := by omega
      by_cases c : i < j
      · have c' : (i : Int) < (j : Int) := by omega
        obtain ⟨_, hcx, x, rfl⟩ := hR.out.cell ci
        obtain ⟨_, hcy, y, rfl⟩ := hR.out.cell hj
        have hfx := hR.out.frozen i
        have hfy := hR.out.frozen j
        have ne : i ≠ j := by omega
        have ne' : j ≠ i := by omega
        go_wp2_with fail
        go_region
        have HR2 := hide (show RowP (((W.setCell ⟨g, i, none⟩ (.int .u32 y)).setCell ⟨g, j, none⟩ (.int .u32 x)).drew) g (p2 k) 129 IsU32 from (hR.out.set ci ⟨y, rfl⟩).set hj ⟨x, rfl⟩)
        have HB2 := hide (show Only g w (((W.setCell ⟨g, i, none⟩ (.int .u32 y)).setCell ⟨g, j, none⟩ (.int .u32 x)).drew) from ((hB.out.set (a := ⟨g, i, none⟩) rfl (.int .u32 y)).set (a := ⟨g, j, none⟩) rfl (.int .u32 x)).drewN 1)
        clear hR hB hcx hcy hfx hfy
        generalize ((W.setCell ⟨g, i, none⟩ (.int .u32 y)).setCell ⟨g, j, none⟩ (.int .u32 x)).drew = W2 at *
        go_wp2_with fail
        go_loopw [2, 4] (fun s2 s4 w1 => ∃ (jj bit : Nat), s2 = .int .i64 jj ∧ s4 = .int .i64 bit ∧ jj < p2 k ∧ bit < p2 k ∧ w1 = W2) (fun _ s4 _ => (intOf s4).toNat)
        case atStart => exact ⟨j, p2 k / 2, rfl, by go_num, hj, by omega, rfl⟩
        case round =>
          obtain ⟨jj, bit, rfl, rfl, hjj, hbit, hw⟩ := hrel
          obtain rfl := hw.symm
          clear hw
          have hA := i64_and_nat jj bit (by omega) (by omega)
          by_cases c1 : 0 < bit ∧ jj &&& bit ≠ 0
          · have c1' : (0 : Int) < (bit : Int) := by omega
            have c2' : ¬ ((jj &&& bit : Nat) : Int) = 0 := by have := c1.2; omega
            have hX := i64_xor_nat jj bit (by omega) (by omega)
            have hlt : jj ^^^ bit < p2 k := Nat.xor_lt_two_pow hjj hbit
            generalize jj ^^^ bit = jx at *
            generalize jj &&& bit = ja at *
            go_wp2_with fail
            go_roundw
            case rel => exact ⟨jx, bit / 2, rfl, by go_num, hlt, by omega, by first | rfl | trivial⟩
            case measure => simp [intOf] <;> omega
          · have hO := i64_or_nat jj bit (by omega) (by omega)
            have hlt : jj ||| bit < p2 k := Nat.or_lt_two_pow hjj hbit
            generalize jj ||| bit = jo at *
            by_cases c2 : 0 < bit
            · have c1' : (0 : Int) < (bit : Int) := by omega
              have c2' : ((jj &&& bit : Nat) : Int) = 0 := by
                have : jj &&& bit = 0 := by
                  rcases Nat.eq_zero_or_pos (jj &&& bit) with h | h
                  · exact h
                  · exact absurd ⟨c2, by omega⟩ c1
                rw [this]; rfl
              generalize jj &&& bit = ja at *
              go_wp2_with fail
              go_roundw
              case rel => exact ⟨jo, i + 1, _, rfl, by go_num, hlt, by omega, rfl, HR2, HB2⟩
              case measure => simp [intOf] <;> omega
            · have c1' : ¬ (0 : Int) < (bit : Int) := by omega
              go_wp2_with fail
              go_roundw
              case rel => exact ⟨jo, i + 1, _, rfl, by go_num, hlt, by omega, rfl, HR2, HB2⟩
              case measure => simp [intOf] <;> omega
      · have c' : ¬ (i : Int) < (j : Int) := by omega
        have HR2 := hR
        have HB2 := hB
        obtain ⟨W2, hW2⟩ : ∃ W2, W2 = W := ⟨W, rfl⟩
        subst hW2
        go_wp2_with fail
        go_loopw [2, 4] (fun s2 s4 w1 => ∃ (jj bit : Nat), s2 = .int .i64 jj ∧ s4 = .int .i64 bit ∧ jj < p2 k ∧ bit < p2 k ∧ w1 = W2) (fun _ s4 _ => (intOf s4).toNat)
        case atStart => exact ⟨j, p2 k / 2, rfl, by go_num, hj, by omega, rfl⟩
        case round =>
          obtain ⟨jj, bit, rfl, rfl, hjj, hbit, hw⟩ := hrel
          obtain rfl := hw.symm
          clear hw
          have hA := i64_and_nat jj bit (by omega) (by omega)
          by_cases c1 : 0 < bit ∧ jj &&& bit ≠ 0
          · have c1' : (0 : Int) < (bit : Int) := by omega
            have c2' : ¬ ((jj &&& bit : Nat) : Int) = 0 := by have := c1.2; omega
            have hX := i64_xor_nat jj bit (by omega) (by omega)
            have hlt : jj ^^^ bit < p2 k := Nat.xor_lt_two_pow hjj hbit
            generalize jj ^^^ bit = jx at *
            generalize jj &&& bit = ja at *
            go_wp2_with fail
            go_roundw
            case rel => exact ⟨jx, bit / 2, rfl, by go_num, hlt, by omega, by first | rfl | trivial⟩
            case measure => simp [intOf] <;> omega
          · have hO := i64_or_nat jj bit (by omega) (by omega)
            have hlt : jj ||| bit < p2 k := Nat.or_lt_two_pow hjj hbit
            generalize jj ||| bit = jo at *
            by_cases c2 : 0 < bit
            · have c1' : (0 : Int) < (bit : Int) := by omega
              have c2' : ((jj &&& bit : Nat) : Int) = 0 := by
                have : jj &&& bit = 0 := by
                  rcases Nat.eq_zero_or_pos (jj &&& bit) with h | h
                  · exact h
                  · exact absurd ⟨c2, by omega⟩ c1
                rw [this]; rfl
              generalize jj &&& bit = ja at *
              go_wp2_with fail
              go_roundw
              case rel => exact ⟨jo, i + 1, _, rfl, by go_num, hlt, by omega, rfl, HR2, HB2⟩
              case measure => simp [intOf] <;> omega
            · have c1' : ¬ (0 : Int) < (bit : Int) := by omega
              go_wp2_with fail
              go_roundw
              case rel => exact ⟨jo, i + 1, _, rfl, by go_num, hlt, by omega, rfl, HR2, HB2⟩
              case measure => simp [intOf] <;> omega
    · obtain rfl : i = p2 k := by omega
      go_wp2_with fail
      go_end0
      exact ⟨rfl, hR.out, hB.out⟩
end Go.Proofs.Ygctac
