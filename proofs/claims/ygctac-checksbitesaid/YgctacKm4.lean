/-
  calc.Check.
-/
import Derived.Test.YgctacKm3
namespace Go.Proofs.Ygctac
open Go.RowKit
set_option linter.unusedVariables false
set_option linter.unusedSimpArgs false

def NoShare (n : Nat) (S : Nat → Ent) : Prop := ∀ i, i < n → ∀ e, S i = some e → ∀ j, j < n → j ≠ i → ¬ hit e (first (S j))
def Chk (n : Nat) (S : Nat → Ent) : Prop := n ≤ 16 ∧ allN n S = true ∧ NoShare n S
def hitB (e : En) (q : Option Addr) : Bool := (List.range e.l).any fun k => decide (q = some ⟨e.b, e.o + k, none⟩)
theorem hitB_iff {e : En} {q : Option Addr} : hitB e q = true ↔ hit e q := by
  simp [hitB, hit]
def chkB (n : Nat) (S : Nat → Ent) : Bool := decide (n ≤ 16) && allN n S && (List.range n).all fun i => match S i with
  | none => true
  | some e => (List.range n).all fun j => decide (j = i) || !hitB e (first (S j))
theorem chkB_iff {n : Nat} {S : Nat → Ent} : chkB n S = true ↔ Chk n S := by
  unfold chkB Chk NoShare
  rw [Bool.and_eq_true, Bool.and_eq_true, decide_eq_true_eq, and_assoc, List.all_eq_true]
  refine and_congr Iff.rfl (and_congr Iff.rfl ⟨fun h i hi e he j hj hne hh => ?_, fun h i hi => ?_⟩)
  · have := h i (List.mem_range.2 hi)
    simp only [he, List.all_eq_true] at this
    have := this j (List.mem_range.2 hj)
    rw [hitB_iff.2 hh] at this
    simp [hne] at this
  · have hi' := List.mem_range.1 hi
    cases he : S i with
    | none => rfl
    | some e =>
      simp only [List.all_eq_true]
      intro j hj
      by_cases c : j = i
      · simp [c]
      · have := h i hi' e he j (List.mem_range.1 hj) c
        rw [← hitB_iff] at this
        simp [c, this]
theorem chkB_true {n : Nat} {S : Nat → Ent} (h : Chk n S) : chkB n S = true := chkB_iff.2 h
theorem chkB_false {n : Nat} {S : Nat → Ent} (h : ¬ Chk n S) : chkB n S = false := by
  rw [← chkB_iff] at h
  exact Bool.eq_false_iff.2 h
theorem chkB_is {n : Nat} {S : Nat → Ent} (h : chkB n S = true) : Chk n S := chkB_iff.1 h
theorem AllPlain.below {w w' : World} {n : Nat} {S : Nat → Ent} (h : AllPlain w n S) (hb : Below w.heap.size w w') : AllPlain w' n S := fun i hi e he => (h i hi e he).below hb

theorem check_nil (w : World) : Calls Tacg.prog 21 #[.pointer none] w fun r w' => r = .returned (.bool false) ∧ w' = w := by
  go_enter Tacg.func21, Tacg.ntmps21
  go_wp2
  go_ret
  exact ⟨rfl, rfl⟩

set_option maxRecDepth 100000 in
set_option maxHeartbeats 2000000 in
theorem check_any (mb : Nat) (p : Option Addr) (n c : Nat) (S : Nat → Ent) (u : Value) (hn : n ≤ 140737488355328) (w : World) (hm : MaC w mb (.slice p n c) u) (hs : StP w p n c S) (hpl : AllPlain w n S) :
    Calls Tacg.prog 21 #[.pointer (some ⟨mb, 0, none⟩)] w fun r w' => r = .returned (.bool (chkB n S)) ∧ Below w.heap.size w w' := by
  have HM := hide hm
  obtain ⟨m0, _⟩ := hm
  by_cases c16 : n ≤ 16
  · have c16' : ¬ ((16 : Int) < (n : Int)) := by omega
    have H := hide hs
    have HPL := hide hpl
    clear hs hpl
    go_enter Tacg.func21, Tacg.ntmps21
    go_wp2_with fail
    go_loopw [3] (fun s3 w1 => ∃ i : Nat, s3 = .int .i64 i ∧ i ≤ n ∧ Hid (∀ j, j < i → nrm (S j) = true) ∧ w1 = w) (fun s3 _ => n - (intOf s3).toNat)
    case atStart => exact ⟨0, rfl, by omega, hide (fun j hj => absurd hj (by omega)), rfl⟩
    case round =>
      obtain ⟨i, rfl, hi, hA, hw⟩ := hrel
      obtain rfl := hw.symm
      clear hw
      by_cases ci : i < n
      · have ci' : (i : Int) < (n : Int) := by omega
        obtain ⟨sb, so, rfl, hc, he⟩ := H.out.at ci
        have HE := hide he
        clear he
        obtain ⟨x, hx⟩ : ∃ x, x = S i := ⟨_, rfl⟩
        rw [← hx] at hc HE
        have HX := hide hx
        clear hx
        go_wp2_with fail
        refine (normal72 x w HE.out).mono ?_
        rintro e w' ⟨rfl, hw⟩
        obtain rfl := hw.symm
        clear hw
        cases hb : nrm x
        · go_wp2_with fail
          go_ret
          refine ⟨?_, Below.refl _ _⟩
          rw [chkB_false (fun h => by have := allN_false (S := S) ci (by rw [← HX.out]; exact hb); rw [h.2.1] at this; cases this)]
          rfl
        · go_wp2_with fail
          go_roundw
          case rel =>
            refine ⟨i + 1, by go_num, by omega, hide (fun j hj => ?_), by first | rfl | trivial⟩
            rcases Nat.lt_or_ge j i with h' | h'
            · exact hA.out j h'
            · obtain rfl : j = i := by omega
              rw [← HX.out]; exact hb
          case measure => simp [intOf] <;> omega
      · obtain rfl : n = i := by omega
        have HT := hide (allN_true hA.out)
        clear hA
        go_wp2_with fail
        go_loopw [4] (fun s4 w1 => ∃ (i : Nat) (W : World), s4 = .int .i64 i ∧ i ≤ n ∧ Hid (∀ k, k < i → ∀ e, S k = some e → ∀ j, j < n → j ≠ k → ¬ hit e (first (S j))) ∧ w1 = W ∧ Hid (Below w.heap.size w W)) (fun s4 _ => n - (intOf s4).toNat)
        case atStart => exact ⟨0, _, rfl, by omega, hide (fun j hj => absurd hj (by omega)), rfl, hide (Below.refl _ _)⟩
        case round =>
          obtain ⟨i, W, rfl, hi, hA, hw, hB⟩ := hrel
          obtain rfl := hw.symm
          clear hw m0
          have m0 := (HM.out.below hB.out).1
          by_cases ci : i < n
          · have ci' : (i : Int) < (n : Int) := by omega
            have HSW := hide (H.out.below hB.out)
            obtain ⟨sb, so, rfl, hc, he⟩ := HSW.out.at ci
            cases hS : S i with
            | none =>
              rw [hS] at hc
              simp only [vOf] at hc
              clear he
              go_wp2_with fail
              go_roundw
              case rel =>
                refine ⟨i + 1, _, by go_num, by omega, hide (fun k hk e he => ?_), rfl, hB⟩
                rcases Nat.lt_or_ge k i with h' | h'
                · exact hA.out k h' e he
                · obtain rfl : k = i := by omega
                  rw [hS] at he; cases he
              case measure => simp [intOf] <;> omega
            | some e =>
              have HSH := hide (shares_any sb so n c i S e c16 ci hS HT.out W HSW.out (HPL.out.below hB.out))
              rw [hS] at hc
              obtain ⟨b, o, l, ce, f⟩ := e
              simp only [vOf] at hc
              have HSS := hide hS
              clear he hS
              go_wp2_with fail
              refine HSH.out.mono ?_
              rintro ee w5 ⟨hh, hb5⟩
              have HB5 := hide (hB.out.trans (hb5.mono hB.out.size))
              clear hb5 HSH
              rcases hh with ⟨rfl, j, hj, hne, hht⟩ | ⟨rfl, hF⟩
              · have HNC : Hid (¬ Chk n S) := hide (fun h => h.2.2 i ci _ HSS.out j hj hne hht)
                clear hht
                go_wp2_with fail
                go_ret
                refine ⟨?_, HB5.out⟩
                rw [chkB_false HNC.out]
                rfl
              · have HF := hide hF
                clear hF
                go_wp2_with fail
                go_roundw
                case rel =>
                  refine ⟨i + 1, _, by go_num, by omega, hide (fun k hk e he => ?_), rfl, HB5⟩
                  rcases Nat.lt_or_ge k i with h' | h'
                  · exact hA.out k h' e he
                  · obtain rfl : k = i := by omega
                    rw [HSS.out] at he
                    cases he
                    exact HF.out
                case measure => simp [intOf] <;> omega
          · obtain rfl : n = i := by omega
            go_wp2_with fail
            go_ret
            refine ⟨?_, hB.out⟩
            rw [chkB_true ⟨c16, HT.out, hA.out⟩]
            rfl
  · have c16' : (16 : Int) < (n : Int) := by omega
    clear hs hpl
    go_enter Tacg.func21, Tacg.ntmps21
    go_wp2_with fail
    go_ret
    refine ⟨?_, Below.refl _ _⟩
    rw [chkB_false (fun h => c16 h.1)]
    rfl
end Go.Proofs.Ygctac
