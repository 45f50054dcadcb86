/-
  sameOut of nothing; Cmp of equal numbers; isOutcome of one entry.
-/
import Derived.Test.YgctacCopy5
import Derived.BigQuiet
namespace Go.Proofs.Ygctac
open Go.RowKit
set_option linter.unusedVariables false
set_option linter.unusedSimpArgs false

theorem sameOut_nil (w : World) : Calls Tacg.prog 25 #[.slice none 0 0, .slice none 0 0] w fun r w' => r = .returned (.bool true) ∧ w' = w := by
  go_enter Tacg.func25, Tacg.ntmps25
  go_wp2_with fail
  go_loopw [5] (fun s5 w1 => s5 = .int .i64 0 ∧ w1 = w) (fun _ _ => 0)
  case atStart => exact ⟨rfl, rfl⟩
  case round =>
    obtain ⟨rfl, hw⟩ := hrel
    obtain rfl := hw.symm
    go_wp2
    go_ret
    exact ⟨rfl, rfl⟩

theorem cmp_nils (w : World) : Calls Tacg.prog 85 #[.slice none 0 0, .slice none 0 0] w fun r w' => r = .returned (.int .i8 0) ∧ ∃ d, w' = w.drewN d := by
  go_enter Tacg.func85, Tacg.ntmps85
  go_wp2_with (go_at_call 70; refine (trim_nil _).mono ?_; rintro e w' ⟨rfl, hw⟩; obtain rfl := hw.symm)
  go_loopw [5] (fun s5 w1 => s5 = .int .i64 (-1) ∧ w1 = w) (fun _ _ => 0)
  case atStart => exact ⟨rfl, rfl⟩
  case round =>
    obtain ⟨rfl, hw⟩ := hrel
    obtain rfl := hw.symm
    go_wp2
    go_ret
    exact ⟨rfl, 0, rfl⟩

set_option maxRecDepth 100000 in
set_option maxHeartbeats 1000000 in
theorem cmp_two (g g' m c c' : Nat) (f : Nat → Int) (hm : 0 < m) (hc : c ≤ 140737488355328) (hmc : m ≤ c) (hc' : c' ≤ 140737488355328) (hmc' : m ≤ c') (ht : top f m = m) (w : World) (h : Cells w g 0 m f) (h' : Cells w g' 0 m f) :
    Calls Tacg.prog 85 #[.slice (some ⟨g, 0, none⟩) m c, .slice (some ⟨g', 0, none⟩) m c'] w fun r w' => r = .returned (.int .i8 0) ∧ ∃ d, w' = w.drewN d := by
  have H := hide h
  have H' := hide h'
  have t0 : (0 : Int) < (m : Int) := by omega
  have et := trimR g f m ht hm
  have et' := trimR g' f m ht hm
  clear h h'
  go_enter Tacg.func85, Tacg.ntmps85
  go_wp2_with fail
  refine (trim_any g 0 m c f hmc hc _ H.out).mono ?_; rw [et]; rintro e w' ⟨rfl, hw⟩; obtain rfl := hw.symm
  go_wp2_with fail
  refine (trim_any g' 0 m c' f hmc' hc' _ H'.out).mono ?_; rw [et']; rintro e w' ⟨rfl, hw⟩; obtain rfl := hw.symm
  go_wp2_with fail
  go_loopw [5] (fun s5 w1 => ∃ (z : Int) (d : Nat), s5 = .int .i64 z ∧ -1 ≤ z ∧ z < m ∧ w1 = w.drewN d) (fun s5 _ => (intOf s5 + 1).toNat)
  case atStart => exact ⟨(m : Int) - 1, 0, by go_num, by omega, by omega, rfl⟩
  case round =>
    obtain ⟨z, d, rfl, z0, z1, rfl⟩ := hrel
    by_cases hz : 0 ≤ z
    · obtain ⟨i, rfl⟩ := Int.eq_ofNat_of_zero_le hz
      have hi : i < m := by omega
      have hi' : (i : Int) < (m : Int) := by omega
      have hcell := H.out i hi
      have hcell' := H'.out i hi
      rw [Nat.zero_add] at hcell hcell'
      go_wp2_with fail
      go_quiet (fail)
      go_wp2_with fail
      go_quiet (fail)
      go_wp2_with fail
      go_roundw
      case rel => exact ⟨(i : Int) - 1, _, by go_num, by omega, by omega, rfl⟩
      case measure => simp [intOf] <;> omega
    · obtain rfl : z = -1 := by omega
      go_wp2
      go_ret
      exact ⟨rfl, d, rfl⟩

theorem Cells.drewN {w : World} {b o n d : Nat} {f : Nat → Int} (h : Cells w b o n f) : Cells (w.drewN d) b o n f := fun i hi => h i hi
theorem NatO.cells {w : World} {g n c : Nat} {p : Option Addr} {f : Nat → Int} (h : OwnRow w g n f) : Cells w g 0 n f := h.cells

set_option maxRecDepth 100000 in
set_option maxHeartbeats 1000000 in
theorem isOutcome_gen (k s n cy cx : Nat) (py px : Option Addr) (w : World) (hk : w.cell? ⟨k, 0, none⟩ = some (.slice py n cy)) (hs : w.cell? ⟨s, 0, none⟩ = some (.slice px n cx))
    (hcmp : ∀ d d2, Calls Tacg.prog 85 #[.slice py n cy, .slice px n cx] (((w.alloc (.cells #[.bool false, .slice (some ⟨k, 0, none⟩) 1 1, .slice none 0 0] 140)).drewN d).drewN d2) fun r w' => r = .returned (.int .i8 0) ∧ ∃ e, w' = (((w.alloc (.cells #[.bool false, .slice (some ⟨k, 0, none⟩) 1 1, .slice none 0 0] 140)).drewN d).drewN d2).drewN e) :
    Calls Tacg.prog 113 #[.agg #[.bool false, .slice (some ⟨k, 0, none⟩) 1 1, .slice none 0 0], .slice (some ⟨s, 0, none⟩) 1 1, .slice none 0 0] w fun r w' => r = .returned (.bool true) ∧ Below w.heap.size w w' := by
  have hO := hide (OutAt.new w (.bool false) (.slice (some ⟨k, 0, none⟩) 1 1) (.slice none 0 0))
  have hB := hide ((Below.refl w.heap.size w).alloc (Nat.le_refl _) (.cells #[.bool false, .slice (some ⟨k, 0, none⟩) 1 1, .slice none 0 0] 140))
  have hk1 := cell_alloc' (.cells #[.bool false, .slice (some ⟨k, 0, none⟩) 1 1, .slice none 0 0] 140) hk
  have hs1 := cell_alloc' (.cells #[.bool false, .slice (some ⟨k, 0, none⟩) 1 1, .slice none 0 0] 140) hs
  have c0 := hO.out.c0
  have c1 := hO.out.c1
  have c2 := hO.out.c2
  have HC := hide hcmp
  clear hk hs hcmp
  go_enter Tacg.func113, Tacg.ntmps113
  go_wp2_with fail
  refine (sameOut_nil _).mono ?_
  rintro e w' ⟨rfl, hw⟩; obtain rfl := hw.symm
  go_wp2_with fail
  generalize w.alloc (.cells #[.bool false, .slice (some ⟨k, 0, none⟩) 1 1, .slice none 0 0] 140) = W at *
  go_loopw [7] (fun s7 w0 => ∃ (w1 : World) (i d : Nat), s7 = .int .i64 i ∧ i ≤ 1 ∧ w0 = w1 ∧ w1 = W.drewN d) (fun s7 _ => 1 - (intOf s7).toNat)
  case atStart => exact ⟨_, 0, 0, rfl, by decide, rfl, rfl⟩
  case round =>
    obtain ⟨w1, i, d, rfl, hi, hww, hw⟩ := hrel
    obtain rfl := hww.symm
    have HC' := hide (HC.out d)
    rw [← hw] at HC'
    have hk2 : w1.cell? ⟨k, 0, none⟩ = some (.slice py n cy) := by rw [hw]; exact hk1
    have hs2 : w1.cell? ⟨s, 0, none⟩ = some (.slice px n cx) := by rw [hw]; exact hs1
    have c1' : w1.cell? ⟨w.heap.size, 1, none⟩ = some (.slice (some ⟨k, 0, none⟩) 1 1) := by rw [hw]; exact c1
    have hB' := hide (below_dN hB.out d)
    rw [← hw] at hB'
    have HW := hide hw
    clear hw hB hk1 hs1 c0 c1 c2 HC
    rcases Nat.eq_zero_or_pos i with rfl | hp
    · go_wp2_with fail
      go_quiet (first | (go_at_call 85; refine Calls.quiet_of (HC'.out _)))
      go_wp2_with fail
      go_roundw
      case rel => exact ⟨_, 1, _, rfl, by decide, rfl, by rw [HW.out]; exact World.drewN_drewN _ _ _⟩
      case measure => simp [intOf]
    · obtain rfl : i = 1 := by omega
      go_wp2
      go_ret
      exact ⟨rfl, hB'.out⟩

theorem isOutcome_any {k s g g' n : Nat} {y x : Value} {f : Nat → Int} (w : World) (hk : w.cell? ⟨k, 0, none⟩ = some y) (hs : w.cell? ⟨s, 0, none⟩ = some x) (hy : NatO w y g n f) (hx : NatO w x g' n f) :
    Calls Tacg.prog 113 #[.agg #[.bool false, .slice (some ⟨k, 0, none⟩) 1 1, .slice none 0 0], .slice (some ⟨s, 0, none⟩) 1 1, .slice none 0 0] w fun r w' => r = .returned (.bool true) ∧ Below w.heap.size w w' := by
  have hB := (Below.refl w.heap.size w).alloc (Nat.le_refl _) (.cells #[.bool false, .slice (some ⟨k, 0, none⟩) 1 1, .slice none 0 0] 140)
  rcases hy with ⟨rfl, rfl⟩ | ⟨c, rfl, h2, h3, h4, h5, h6⟩
  · rcases hx with ⟨rfl, _⟩ | ⟨c', rfl, h2', _⟩
    · exact isOutcome_gen k s 0 0 0 none none w hk hs (fun d d2 => cmp_nils _)
    · omega
  · rcases hx with ⟨rfl, h0⟩ | ⟨c', rfl, h2', h3', h4', h5', h6'⟩
    · omega
    · have r1 := (h6.below hB h6.lt).cells
      have r2 := (h6'.below hB h6'.lt).cells
      exact isOutcome_gen k s n c c' _ _ w hk hs (fun d d2 => cmp_two g g' n c c' f h2 (by omega) h3.1 (by omega) h3'.1 h5 _ r1.drewN.drewN r2.drewN.drewN)
end Go.Proofs.Ygctac
