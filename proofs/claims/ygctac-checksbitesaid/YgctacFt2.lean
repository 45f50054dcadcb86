/-
  fft.Reverse.
-/
import Derived.Test.YgctacFt1
import Derived.RegionTactic
namespace Go.Proofs.Ygctac.Cx
open Go.RowKit
set_option linter.unusedVariables false
set_option linter.unusedSimpArgs false

theorem i64_xor_nat (a b : Nat) (ha : a < 9223372036854775808) (hb : b < 9223372036854775808) : bits .xor .i64 (a : Int) (b : Int) = ((a ^^^ b : Nat) : Int) := by
  have hx : a ^^^ b < 2 ^ 63 := Nat.xor_lt_two_pow (by omega) (by omega)
  show IntKind.i64.wrap ((BitVec.ofInt 64 (a : Int) ^^^ BitVec.ofInt 64 (b : Int)).toNat : Int) = _
  rw [BitVec.toNat_xor, ofInt_u64 a (by omega), ofInt_u64 b (by omega)]
  generalize a ^^^ b = c at *
  simp [IntKind.wrap, IntKind.bits, IntKind.signed]
  omega
theorem i64_or_nat (a b : Nat) (ha : a < 9223372036854775808) (hb : b < 9223372036854775808) : bits .or .i64 (a : Int) (b : Int) = ((a ||| b : Nat) : Int) := by
  have hx : a ||| b < 2 ^ 63 := Nat.or_lt_two_pow (by omega) (by omega)
  show IntKind.i64.wrap ((BitVec.ofInt 64 (a : Int) ||| BitVec.ofInt 64 (b : Int)).toNat : Int) = _
  rw [BitVec.toNat_or, ofInt_u64 a (by omega), ofInt_u64 b (by omega)]
  generalize a ||| b = c at *
  simp [IntKind.wrap, IntKind.bits, IntKind.signed]
  omega
theorem CRE.swap {w : World} {g n e i j : Nat} (h : CRE w g n e) (hi : i < n) (hj : j < n) {x y : Nat × Nat} (hx : CE e x) (hy : CE e y) :
    CRE ((w.setCell ⟨g, i, none⟩ (.complex .f64 x.1 x.2)).setCell ⟨g, j, none⟩ (.complex .f64 y.1 y.2)) g n e := (h.set hi hx).set hj hy

set_option maxRecDepth 100000 in
set_option maxHeartbeats 4000000 in
theorem reverse_any (Fr : World → Prop) (g k e gt nt : Nat) (st : St Fr g) (hk : k ≤ 11) (hne : g ≠ gt) (w : World) (h : CRE w g (p2 k) e) (ht : TF Fr w gt nt) :
    Calls Tacg.prog 121 #[.slice (some ⟨g, 0, none⟩) (p2 k) (p2 k)] w fun r w' => r = .returned (.tuple #[]) ∧ CRE w' g (p2 k) e ∧ TF Fr w' gt nt ∧ Below g w w' := by
  have HL := hide (level_pow k hk w)
  have hp := p2_le hk
  have hpos := p2_pos k
  have h0 : ¬ (k : Int) < 0 := by omega
  have HST := hide st
  clear st
  have HR := hide h
  have HT := hide ht
  clear h ht
  go_enter Tacg.func121, Tacg.ntmps121
  go_wp2_with fail
  refine HL.out.mono ?_
  rintro r w' ⟨rfl, hw⟩; obtain rfl := hw.symm
  clear hw HL
  go_wp2_with fail
  go_loopw [3, 4, 5] (fun s3 s4 s5 w1 => ∃ (j i : Nat) (W : World), s3 = .int .i64 j ∧ s4 = .int .i64 i ∧ j < p2 k ∧ i ≤ p2 k ∧ w1 = W ∧ Hid (CRE W g (p2 k) e) ∧ Hid (TF Fr W gt nt) ∧ Hid (Below g w W)) (fun _ s4 _ _ => p2 k - (intOf s4).toNat)
  case atStart => exact ⟨0, 0, w, rfl, rfl, hpos, by omega, rfl, HR, HT, hide (Below.refl _ _)⟩
  case round =>
    obtain ⟨j, i, W, rfl, rfl, hj, hi, hw, hR, hT, hB⟩ := hrel
    obtain rfl := hw.symm
    clear hw HR HT
    by_cases ci : i < p2 k
    · have ci' : (i : Int) < (p2 k : Int) := by omega
      have hj' : (j : Int) < (p2 k : Int) := by omega
      by_cases c : i < j
      · have c' : (i : Int) < (j : Int) := by omega
        obtain ⟨x, hx, hcx⟩ := hR.out.cell ci
        obtain ⟨y, hy, hcy⟩ := hR.out.cell hj
        have hfx := hR.out.frozen i
        have hfy := hR.out.frozen j
        have ne : i ≠ j := by omega
        have ne' : j ≠ i := by omega
        go_wp2_with fail
        go_region
        have HR2 := hide (show CRE (((W.setCell ⟨g, i, none⟩ (.complex .f64 y.1 y.2)).setCell ⟨g, j, none⟩ (.complex .f64 x.1 x.2)).drew) g (p2 k) e from hR.out.swap ci hj hy hx)
        have HB2 := hide (((hB.out.setCell (p := ⟨g, i, none⟩) (Nat.le_refl _) (.complex .f64 y.1 y.2)).setCell (p := ⟨g, j, none⟩) (Nat.le_refl _) (.complex .f64 x.1 x.2)).drew)
        have HT2 := hide (show TF Fr (((W.setCell ⟨g, i, none⟩ (.complex .f64 y.1 y.2)).setCell ⟨g, j, none⟩ (.complex .f64 x.1 x.2)).drew) gt nt from ((hT.out.other HST.out hne (a := ⟨g, i, none⟩) rfl _).other HST.out hne (a := ⟨g, j, none⟩) rfl _).drewN (d := 1) HST.out)
        clear hR hB hT hcx hcy hfx hfy hx hy
        generalize ((W.setCell ⟨g, i, none⟩ (.complex .f64 y.1 y.2)).setCell ⟨g, j, none⟩ (.complex .f64 x.1 x.2)).drew = W2 at *
        go_wp2_with fail
        go_loopw [3, 5] (fun s3 s5 w1 => ∃ (jj bit : Nat), s3 = .int .i64 jj ∧ s5 = .int .i64 bit ∧ jj < p2 k ∧ bit < p2 k ∧ w1 = W2) (fun _ s5 _ => (intOf s5).toNat)
        case atStart => exact ⟨j, p2 k / 2, rfl, by go_num, hj, by omega, rfl⟩
        case round =>
          obtain ⟨jj, bit, rfl, rfl, hjj, hbit, hw⟩ := hrel
          obtain rfl := hw.symm
          clear hw
          have hA := i64_and_nat jj bit (by omega) (by omega)
          by_cases c1 : 0 < bit ∧ jj &&& bit ≠ 0
          · have c1' : (0 : Int) < (bit : Int) := by omega
            have c2' : ¬ ((jj &&& bit : Nat) : Int) = 0 := by have := c1.2; omega
            have hX := i64_xor_nat jj bit (by omega) (by omega)
            have hlt : jj ^^^ bit < p2 k := Nat.xor_lt_two_pow hjj hbit
            generalize jj ^^^ bit = jx at *
            generalize jj &&& bit = ja at *
            go_wp2_with fail
            go_roundw
            case rel => exact ⟨jx, bit / 2, rfl, by go_num, hlt, by omega, by first | rfl | trivial⟩
            case measure => simp [intOf] <;> omega
          · have hO := i64_or_nat jj bit (by omega) (by omega)
            have hlt : jj ||| bit < p2 k := Nat.or_lt_two_pow hjj hbit
            generalize jj ||| bit = jo at *
            by_cases c2 : 0 < bit
            · have c1' : (0 : Int) < (bit : Int) := by omega
              have c2' : ((jj &&& bit : Nat) : Int) = 0 := by
                have : jj &&& bit = 0 := by
                  rcases Nat.eq_zero_or_pos (jj &&& bit) with h | h
                  · exact h
                  · exact absurd ⟨c2, by omega⟩ c1
                rw [this]; rfl
              generalize jj &&& bit = ja at *
              go_wp2_with fail
              go_roundw
              case rel => exact ⟨jo, i + 1, _, rfl, by go_num, hlt, by omega, rfl, HR2, HT2, HB2⟩
              case measure => simp [intOf] <;> omega
            · have c1' : ¬ (0 : Int) < (bit : Int) := by omega
              go_wp2_with fail
              go_roundw
              case rel => exact ⟨jo, i + 1, _, rfl, by go_num, hlt, by omega, rfl, HR2, HT2, HB2⟩
              case measure => simp [intOf] <;> omega
      · have c' : ¬ (i : Int) < (j : Int) := by omega
        have HR2 := hR
        have HB2 := hB
        have HT2 := hT
        obtain ⟨W2, hW2⟩ : ∃ W2, W2 = W := ⟨W, rfl⟩
        subst hW2
        go_wp2_with fail
        go_loopw [3, 5] (fun s3 s5 w1 => ∃ (jj bit : Nat), s3 = .int .i64 jj ∧ s5 = .int .i64 bit ∧ jj < p2 k ∧ bit < p2 k ∧ w1 = W2) (fun _ s5 _ => (intOf s5).toNat)
        case atStart => exact ⟨j, p2 k / 2, rfl, by go_num, hj, by omega, rfl⟩
        case round =>
          obtain ⟨jj, bit, rfl, rfl, hjj, hbit, hw⟩ := hrel
          obtain rfl := hw.symm
          clear hw
          have hA := i64_and_nat jj bit (by omega) (by omega)
          by_cases c1 : 0 < bit ∧ jj &&& bit ≠ 0
          · have c1' : (0 : Int) < (bit : Int) := by omega
            have c2' : ¬ ((jj &&& bit : Nat) : Int) = 0 := by have := c1.2; omega
            have hX := i64_xor_nat jj bit (by omega) (by omega)
            have hlt : jj ^^^ bit < p2 k := Nat.xor_lt_two_pow hjj hbit
            generalize jj ^^^ bit = jx at *
            generalize jj &&& bit = ja at *
            go_wp2_with fail
            go_roundw
            case rel => exact ⟨jx, bit / 2, rfl, by go_num, hlt, by omega, by first | rfl | trivial⟩
            case measure => simp [intOf] <;> omega
          · have hO := i64_or_nat jj bit (by omega) (by omega)
            have hlt : jj ||| bit < p2 k := Nat.or_lt_two_pow hjj hbit
            generalize jj ||| bit = jo at *
            by_cases c2 : 0 < bit
            · have c1' : (0 : Int) < (bit : Int) := by omega
              have c2' : ((jj &&& bit : Nat) : Int) = 0 := by
                have : jj &&& bit = 0 := by
                  rcases Nat.eq_zero_or_pos (jj &&& bit) with h | h
                  · exact h
                  · exact absurd ⟨c2, by omega⟩ c1
                rw [this]; rfl
              generalize jj &&& bit = ja at *
              go_wp2_with fail
              go_roundw
              case rel => exact ⟨jo, i + 1, _, rfl, by go_num, hlt, by omega, rfl, HR2, HT2, HB2⟩
              case measure => simp [intOf] <;> omega
            · have c1' : ¬ (0 : Int) < (bit : Int) := by omega
              go_wp2_with fail
              go_roundw
              case rel => exact ⟨jo, i + 1, _, rfl, by go_num, hlt, by omega, rfl, HR2, HT2, HB2⟩
              case measure => simp [intOf] <;> omega
    · obtain rfl : i = p2 k := by omega
      go_wp2_with fail
      go_end0
      exact ⟨rfl, hR.out, hT.out, hB.out⟩
end Go.Proofs.Ygctac.Cx
