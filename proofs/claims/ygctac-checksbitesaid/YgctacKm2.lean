/-
  calc.anyOf.
-/
import Derived.Test.YgctacKm1
namespace Go.Proofs.Ygctac
open Go.RowKit
set_option linter.unusedVariables false
set_option linter.unusedSimpArgs false

set_option maxRecDepth 100000 in
set_option maxHeartbeats 4000000 in
theorem anyOf_any (b o l c gf : Nat) (f : Nat → Int) (P : Nat → Option Addr) (hl : l ≤ 140737488355328) (hlc : l ≤ c) (w : World) (hb : Plain w b) (hQ : ∀ t, t < 8 → ∀ a, P t = some a → Plain w a.block) (hP : ∀ t, t < 8 → w.cell? ⟨gf, t, none⟩ = some (.pointer (P t))) :
    Calls Tacg.prog 139 #[.slice (some ⟨b, o, none⟩) l c, .pointer (some ⟨gf, 0, none⟩)] w fun r w' => ((r = .returned (.bool true) ∧ ∃ t, t < 8 ∧ hit ⟨b, o, l, c, f⟩ (P t)) ∨ (r = .returned (.bool false) ∧ ∀ t, t < 8 → ¬ hit ⟨b, o, l, c, f⟩ (P t))) ∧ ∃ d, w' = w.drewN d := by
  have HQ : Hid (∀ t, t < 8 → ∀ (d i : Nat), (binOp .eql 164 (.pointer (some ⟨b, o + i, none⟩)) (.pointer (P t))).run Tacg.prog (w.drewN d) = .ok (.bool (decide (P t = some ⟨b, o + i, none⟩))) (w.drewN d)) := by
    refine hide (fun t ht d i => ?_)
    cases hp : P t with
    | none =>
      rw [run_eql_pointer_nil _ 164 _ (by kernel_rfl)]
      simp
    | some a => exact eql_ptr (w.drewN d) ⟨b, o + i, none⟩ a hb (hQ t ht a hp)
  clear hb hQ
  have p0 := hP 0 (by omega)
  have p1 := hP 1 (by omega)
  have p2 := hP 2 (by omega)
  have p3 := hP 3 (by omega)
  have p4 := hP 4 (by omega)
  have p5 := hP 5 (by omega)
  have p6 := hP 6 (by omega)
  have p7 := hP 7 (by omega)
  clear hP
  go_enter Tacg.func139, Tacg.ntmps139
  go_wp2_with fail
  go_quiet (fail)
  go_wp2_with fail
  go_loopw [13, 14] (fun s13 s14 w1 => ∃ i : Nat, s13 = .int .i64 i ∧ i ≤ l ∧ Hid (∀ k, k < i → ∀ t, t < 8 → P t ≠ some ⟨b, o + k, none⟩) ∧ w1 = w.drewN nq) (fun s13 _ _ => l - (intOf s13).toNat)
  case atStart => exact ⟨0, rfl, Nat.zero_le _, hide (fun k hk => absurd hk (by omega)), rfl⟩
  case round =>
    obtain ⟨i, rfl, hi, hA, rfl⟩ := hrel
    by_cases hc : i < l
    · have hi' : (i : Int) < (l : Int) := by omega
      have q0 := HQ.out 0 (by omega) nq i
      have q1 := HQ.out 1 (by omega) nq i
      have q2 := HQ.out 2 (by omega) nq i
      have q3 := HQ.out 3 (by omega) nq i
      have q4 := HQ.out 4 (by omega) nq i
      have q5 := HQ.out 5 (by omega) nq i
      have q6 := HQ.out 6 (by omega) nq i
      have q7 := HQ.out 7 (by omega) nq i
      by_cases d0 : P 0 = some ⟨b, o + i, none⟩
      · rw [decide_eq_true d0] at q0
        have D0 := hide d0
        clear d0
        go_wp2_with fail
        go_ret
        exact ⟨.inl ⟨rfl, 0, by omega, i, hc, D0.out⟩, nq, rfl⟩
      · rw [decide_eq_false d0] at q0
        replace d0 := hide d0
        by_cases d1 : P 1 = some ⟨b, o + i, none⟩
        · rw [decide_eq_true d1] at q1
          have D1 := hide d1
          clear d1
          go_wp2_with fail
          go_ret
          exact ⟨.inl ⟨rfl, 1, by omega, i, hc, D1.out⟩, nq, rfl⟩
        · rw [decide_eq_false d1] at q1
          replace d1 := hide d1
          by_cases d2 : P 2 = some ⟨b, o + i, none⟩
          · rw [decide_eq_true d2] at q2
            have D2 := hide d2
            clear d2
            go_wp2_with fail
            go_ret
            exact ⟨.inl ⟨rfl, 2, by omega, i, hc, D2.out⟩, nq, rfl⟩
          · rw [decide_eq_false d2] at q2
            replace d2 := hide d2
            by_cases d3 : P 3 = some ⟨b, o + i, none⟩
            · rw [decide_eq_true d3] at q3
              have D3 := hide d3
              clear d3
              go_wp2_with fail
              go_ret
              exact ⟨.inl ⟨rfl, 3, by omega, i, hc, D3.out⟩, nq, rfl⟩
            · rw [decide_eq_false d3] at q3
              replace d3 := hide d3
              by_cases d4 : P 4 = some ⟨b, o + i, none⟩
              · rw [decide_eq_true d4] at q4
                have D4 := hide d4
                clear d4
                go_wp2_with fail
                go_ret
                exact ⟨.inl ⟨rfl, 4, by omega, i, hc, D4.out⟩, nq, rfl⟩
              · rw [decide_eq_false d4] at q4
                replace d4 := hide d4
                by_cases d5 : P 5 = some ⟨b, o + i, none⟩
                · rw [decide_eq_true d5] at q5
                  have D5 := hide d5
                  clear d5
                  go_wp2_with fail
                  go_ret
                  exact ⟨.inl ⟨rfl, 5, by omega, i, hc, D5.out⟩, nq, rfl⟩
                · rw [decide_eq_false d5] at q5
                  replace d5 := hide d5
                  by_cases d6 : P 6 = some ⟨b, o + i, none⟩
                  · rw [decide_eq_true d6] at q6
                    have D6 := hide d6
                    clear d6
                    go_wp2_with fail
                    go_ret
                    exact ⟨.inl ⟨rfl, 6, by omega, i, hc, D6.out⟩, nq, rfl⟩
                  · rw [decide_eq_false d6] at q6
                    replace d6 := hide d6
                    by_cases d7 : P 7 = some ⟨b, o + i, none⟩
                    · rw [decide_eq_true d7] at q7
                      have D7 := hide d7
                      clear d7
                      go_wp2_with fail
                      go_ret
                      exact ⟨.inl ⟨rfl, 7, by omega, i, hc, D7.out⟩, nq, rfl⟩
                    · rw [decide_eq_false d7] at q7
                      replace d7 := hide d7
                      go_wp2_with fail
                      go_roundw
                      case rel =>
                        refine ⟨i + 1, by go_num, by omega, hide (fun k hk t ht => ?_), by first | rfl | trivial⟩
                        rcases Nat.lt_or_ge k i with h' | h'
                        · exact hA.out k h' t ht
                        · obtain rfl : k = i := by omega
                          rcases (show t = 0 ∨ t = 1 ∨ t = 2 ∨ t = 3 ∨ t = 4 ∨ t = 5 ∨ t = 6 ∨ t = 7 by omega) with rfl | rfl | rfl | rfl | rfl | rfl | rfl | rfl
                          · exact d0.out
                          · exact d1.out
                          · exact d2.out
                          · exact d3.out
                          · exact d4.out
                          · exact d5.out
                          · exact d6.out
                          · exact d7.out
                      case measure => simp [intOf] <;> omega
    · obtain rfl : l = i := by omega
      go_wp2_with fail
      go_ret
      exact ⟨.inr ⟨rfl, fun t ht ⟨k, hk, e⟩ => hA.out k hk t ht e⟩, nq, rfl⟩
end Go.Proofs.Ygctac
