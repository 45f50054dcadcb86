/-
  mkara.halves, subFrom, addAt: what form they leave.
-/
import Derived.Test.YgctacSk3
import Derived.Test.YgctacMid
namespace Go.Proofs.Ygctac
open Go.RowKit
set_option linter.unusedVariables false
set_option linter.unusedSimpArgs false

theorem OwnRow.set {w : World} {g n : Nat} {f : Nat → Int} (h : OwnRow w g n f) (i : Nat) (hi : i < n) (z : Int) : OwnRow (w.setCell ⟨g, i, none⟩ (.int .u8 z)) g n (fun j => if j = i then z else f j) := by
  obtain ⟨C, h1, h2, h3⟩ := h
  refine ⟨C.setIfInBounds i (.int .u8 z), heap_setCell_same w g i C 5 _ h1, by simpa using h2, fun j hj => ?_⟩
  by_cases e : j = i
  · subst e
    simp [show j < C.size by omega]
  · simp only [e, if_false]
    rw [Array.getElem?_setIfInBounds_ne (by omega)]
    exact h3 j hj
/-- Block g begins with n digits. -/
def RowD (w : World) (g n : Nat) : Prop := ∃ k, Dg k n ∧ OwnRow w g n k
theorem RowD.cell {w : World} {g n : Nat} (h : RowD w g n) {i : Nat} (hi : i < n) : ∃ z, 0 ≤ z ∧ z < 256 ∧ w.cell? ⟨g, i, none⟩ = some (.int .u8 z) := by
  obtain ⟨k, h1, h2⟩ := h
  exact ⟨k i, (h1 i hi).1, (h1 i hi).2, h2.cell i hi⟩
theorem RowD.frozen {w : World} {g n : Nat} (h : RowD w g n) (i : Nat) : w.frozen? ⟨g, i, none⟩ = false := by
  obtain ⟨k, h1, h2⟩ := h
  exact h2.frozen i
theorem RowD.set {w : World} {g n : Nat} (h : RowD w g n) {i : Nat} (hi : i < n) {z : Int} (z0 : 0 ≤ z) (z1 : z < 256) : RowD (w.setCell ⟨g, i, none⟩ (.int .u8 z)) g n := by
  obtain ⟨k, h1, h2⟩ := h
  exact ⟨_, h1.put i z0 z1, h2.set i hi z⟩
theorem RowD.below {w w' : World} {g n B : Nat} (h : RowD w g n) (hb : Below B w w') (hB : g < B) : RowD w' g n := by
  obtain ⟨k, h1, h2⟩ := h
  exact ⟨k, h1, h2.below hb hB⟩
theorem RowD.lt {w : World} {g n : Nat} (h : RowD w g n) : g < w.heap.size := by
  obtain ⟨k, h1, h2⟩ := h
  exact h2.lt
theorem RowD.drewN {w : World} {g n d : Nat} (h : RowD w g n) : RowD (w.drewN d) g n := h

theorem Nm.mono {w : World} {v : Value} {L L' : Nat} (h : Nm w v L) (hL : L ≤ L') : Nm w v L' := by
  rcases h with h | ⟨b, o, m, f, h1, h2, h3, h4⟩
  · exact .inl h
  · exact .inr ⟨b, o, m, f, h1, h2, by omega, h4⟩
theorem halves_low (p : Option Addr) (n h : Nat) (hn : n ≤ 140737488355328) (hh : n ≤ h) (w : World) (hs : Sl w p n) :
    Calls Tacg.prog 74 #[.slice p n n, .int .i64 h] w fun r w' => r = .returned (.tuple #[.slice p n n, .slice none 0 0]) ∧ ∃ d, w' = w.drewN d := by
  have HN := hide (normal_sl hn hs)
  have t : (n : Int) ≤ (h : Int) := by omega
  go_enter Tacg.func74, Tacg.ntmps74
  go_wp2_with fail
  refine HN.out.mono ?_
  rintro e w' ⟨rfl, hw⟩; obtain rfl := hw.symm
  go_wp2_with fail
  go_ret2
  exact ⟨rfl, 0, rfl⟩
set_option maxRecDepth 100000 in
theorem halves_both (b o n h : Nat) (f : Nat → Int) (hn : n ≤ 140737488355328) (h0 : 0 < h) (hh : h < n) (hd : Dg f n) (w : World) (hc : Cells w b o n f) :
    Calls Tacg.prog 74 #[.slice (some ⟨b, o, none⟩) n n, .int .i64 h] w fun r w' => ∃ x y, r = .returned (.tuple #[x, y]) ∧ Nm w' x h ∧ Nm w' y (n - h) ∧ ∃ d, w' = w.drewN d := by
  have t : ¬ (n : Int) ≤ (h : Int) := by omega
  have t1 : (h : Int) ≤ (n : Int) := by omega
  have t2 : ¬ (h : Int) = (n : Int) := by omega
  have t3 : (h : Int) < (n : Int) := by omega
  have t4 : (n : Int) - (h : Int) = ((n - h : Nat) : Int) := by omega
  have N1 : ∀ W : World, Cells W b o h f → Calls Tacg.prog 73 #[.slice (some ⟨b, o, none⟩) h h] W fun r w' => r = .returned (trimV b o f h) ∧ w' = W := fun W hW => normal_any b o h h f (Nat.le_refl _) (by omega) W hW
  have N2 : ∀ W : World, Cells W b (o + h) (n - h) (fun i => f (h + i)) → Calls Tacg.prog 73 #[.slice (some ⟨b, o + h, none⟩) (n - h) (n - h)] W fun r w' => r = .returned (trimV b (o + h) (fun i => f (h + i)) (n - h)) ∧ w' = W := fun W hW => normal_any b (o + h) (n - h) (n - h) _ (Nat.le_refl _) (by omega) W hW
  have C1 : Cells w b o h f := fun i hi => hc i (by omega)
  have C2 : Cells w b (o + h) (n - h) (fun i => f (h + i)) := fun i hi => by have := hc (h + i) (by omega); rwa [show o + (h + i) = o + h + i by omega] at this
  have HC := hide (And.intro C1 C2)
  have HN := hide (And.intro N1 N2)
  have HD := hide hd
  clear hc C1 C2 N1 N2 hd
  go_enter Tacg.func74, Tacg.ntmps74
  go_wp2_with fail
  go_quiet (first | (go_at_call_of 73 (Value.slice (some ⟨b, o, none⟩) h h); refine Calls.quiet_of_same (HN.out.1 _ HC.out.1.drewN)) | (go_at_call 73; refine Calls.quiet_of_same (HN.out.2 _ HC.out.2.drewN)))
  go_wp2_with fail
  go_ret2
  exact ⟨_, _, rfl, nm_trimV (c := h) (by omega) (HD.out.le (by omega)) HC.out.1.drewN, nm_trimV (c := h) (by omega) (fun i hi => HD.out (h + i) (by omega)) HC.out.2.drewN, _, rfl⟩
theorem halves_any {v : Value} {n h : Nat} (hn : n ≤ 140737488355328) (h0 : 0 < h) (w : World) (p : Option Addr) (hs : Sl w p n) :
    Calls Tacg.prog 74 #[.slice p n n, .int .i64 h] w fun r w' => ∃ x y, r = .returned (.tuple #[x, y]) ∧ Nm w' x n ∧ Nm w' y n ∧ ∃ d, w' = w.drewN d := by
  by_cases c : n ≤ h
  · refine (halves_low p n h hn c w hs).mono ?_
    rintro r w' ⟨rfl, d, rfl⟩
    exact ⟨_, _, rfl, (hs.nm hn).below (below_dN (Below.refl _ _) _), .inl rfl, d, rfl⟩
  · rcases hs with ⟨rfl, rfl⟩ | ⟨b, o, f, rfl, h2, h3, h4, h5⟩
    · omega
    · refine (halves_both b o n h f hn h0 (by omega) h4 w h5).mono ?_
      rintro r w' ⟨x, y, rfl, hx, hy, d, rfl⟩
      exact ⟨x, y, rfl, hx.mono (by omega), hy.mono (by omega), d, rfl⟩

set_option maxRecDepth 100000 in
set_option maxHeartbeats 4000000 in
theorem subFrom_any (g N o n m : Nat) (q : Option Addr) (hN : o + n ≤ N) (hN2 : N ≤ 140737488355328) (w : World) (h : RowD w g N) (hq : ∀ W, Below g w W → Sl W q m) :
    Calls Tacg.prog 75 #[.slice (some ⟨g, o, none⟩) n n, .slice q m m] w fun r w' => r = .returned (.tuple #[]) ∧ RowD w' g N ∧ Below g w w' := by
  have HQ := hide hq
  have HR0 := hide h
  clear hq h
  go_enter Tacg.func75, Tacg.ntmps75
  go_wp2_with fail
  go_loopw [4, 5, 6] (fun s4 s5 s6 w1 => ∃ (c : Int) (i : Nat) (W : World), s4 = .int .u16 c ∧ s5 = .int .i64 i ∧ i ≤ n ∧ w1 = W ∧ Hid (RowD W g N) ∧ Hid (Below g w W)) (fun _ s5 _ _ => n - (intOf s5).toNat)
  case atStart => exact ⟨0, 0, w, rfl, rfl, by omega, rfl, HR0, hide (Below.refl _ _)⟩
  case round =>
    obtain ⟨c, i, W, rfl, rfl, hi, hw, hR, hB⟩ := hrel
    obtain rfl := hw.symm
    clear hw HR0
    by_cases ci : i < n
    · have ci' : (i : Int) < (n : Int) := by omega
      obtain ⟨x, x0, x1, hx⟩ := hR.out.cell (i := o + i) (by omega)
      have hfo := hR.out.frozen (o + i)
      by_cases cj : i < m
      · have cj' : (i : Int) < (m : Int) := by omega
        obtain ⟨b', o', z, rfl, z0, z1, hz⟩ := (HQ.out W hB.out).cell cj
        go_wp2_with fail
        go_roundw
        case rel => exact ⟨_, i + 1, _, rfl, by go_num, by omega, rfl, hide (hR.out.set (i := o + i) (by omega) (Int.emod_nonneg _ (by decide)) (Int.emod_lt_of_pos _ (by decide))), hide (hB.out.setCell (p := ⟨g, o + i, none⟩) (Nat.le_refl _) _)⟩
        case measure => simp [intOf] <;> omega
      · have cj' : ¬ (i : Int) < (m : Int) := by omega
        by_cases cc : c = 0
        · subst cc
          go_wp2_with fail
          go_end0
          exact ⟨rfl, hR.out, hB.out⟩
        · go_wp2_with fail
          go_roundw
          case rel => exact ⟨_, i + 1, _, rfl, by go_num, by omega, rfl, hide (hR.out.set (i := o + i) (by omega) (Int.emod_nonneg _ (by decide)) (Int.emod_lt_of_pos _ (by decide))), hide (hB.out.setCell (p := ⟨g, o + i, none⟩) (Nat.le_refl _) _)⟩
          case measure => simp [intOf] <;> omega
    · obtain rfl : i = n := by omega
      go_wp2_with fail
      go_end0
      exact ⟨rfl, hR.out, hB.out⟩
theorem subFrom_any_nil (q : Option Addr) (m : Nat) (w : World) : Calls Tacg.prog 75 #[.slice none 0 0, .slice q m m] w fun r w' => r = .returned (.tuple #[]) ∧ w' = w := by
  go_enter Tacg.func75, Tacg.ntmps75
  go_wp2_with fail
  go_loopw [4, 5, 6] (fun s4 s5 s6 w1 => s4 = .int .u16 0 ∧ s5 = .int .i64 0 ∧ w1 = w) (fun _ _ _ _ => 0)
  case atStart => exact ⟨rfl, rfl, rfl⟩
  case round =>
    obtain ⟨rfl, rfl, hw⟩ := hrel
    obtain rfl := hw.symm
    go_wp2_with fail
    go_end0
    exact ⟨rfl, rfl⟩

set_option maxRecDepth 100000 in
set_option maxHeartbeats 4000000 in
theorem addAt_any (g N o n m : Nat) (q : Option Addr) (hN : o + n ≤ N) (hN2 : N ≤ 140737488355328) (w : World) (h : RowD w g N) (hq : ∀ W, Below g w W → Sl W q m) :
    Calls Tacg.prog 76 #[.slice (some ⟨g, o, none⟩) n n, .slice q m m] w fun r w' => r = .returned (.tuple #[]) ∧ RowD w' g N ∧ Below g w w' := by
  have HQ := hide hq
  have HR0 := hide h
  clear hq h
  go_enter Tacg.func76, Tacg.ntmps76
  go_wp2_with fail
  go_loopw [4, 5, 6] (fun s4 s5 s6 w1 => ∃ (c : Int) (i : Nat) (W : World), s4 = .int .u16 c ∧ s5 = .int .i64 i ∧ i ≤ n ∧ w1 = W ∧ Hid (RowD W g N) ∧ Hid (Below g w W)) (fun _ s5 _ _ => n - (intOf s5).toNat)
  case atStart => exact ⟨0, 0, w, rfl, rfl, by omega, rfl, HR0, hide (Below.refl _ _)⟩
  case round =>
    obtain ⟨c, i, W, rfl, rfl, hi, hw, hR, hB⟩ := hrel
    obtain rfl := hw.symm
    clear hw HR0
    by_cases ci : i < n
    · have ci' : (i : Int) < (n : Int) := by omega
      obtain ⟨x, x0, x1, hx⟩ := hR.out.cell (i := o + i) (by omega)
      have hfo := hR.out.frozen (o + i)
      by_cases cj : i < m
      · have cj' : (i : Int) < (m : Int) := by omega
        obtain ⟨b', o', z, rfl, z0, z1, hz⟩ := (HQ.out W hB.out).cell cj
        go_wp2_with fail
        go_roundw
        case rel => exact ⟨_, i + 1, _, rfl, by go_num, by omega, rfl, hide (hR.out.set (i := o + i) (by omega) (Int.emod_nonneg _ (by decide)) (Int.emod_lt_of_pos _ (by decide))), hide (hB.out.setCell (p := ⟨g, o + i, none⟩) (Nat.le_refl _) _)⟩
        case measure => simp [intOf] <;> omega
      · have cj' : ¬ (i : Int) < (m : Int) := by omega
        by_cases cc : c = 0
        · subst cc
          go_wp2_with fail
          go_end0
          exact ⟨rfl, hR.out, hB.out⟩
        · go_wp2_with fail
          go_roundw
          case rel => exact ⟨_, i + 1, _, rfl, by go_num, by omega, rfl, hide (hR.out.set (i := o + i) (by omega) (Int.emod_nonneg _ (by decide)) (Int.emod_lt_of_pos _ (by decide))), hide (hB.out.setCell (p := ⟨g, o + i, none⟩) (Nat.le_refl _) _)⟩
          case measure => simp [intOf] <;> omega
    · obtain rfl : i = n := by omega
      go_wp2_with fail
      go_end0
      exact ⟨rfl, hR.out, hB.out⟩
theorem addAt_any_nil (q : Option Addr) (m : Nat) (w : World) : Calls Tacg.prog 76 #[.slice none 0 0, .slice q m m] w fun r w' => r = .returned (.tuple #[]) ∧ w' = w := by
  go_enter Tacg.func76, Tacg.ntmps76
  go_wp2_with fail
  go_loopw [4, 5, 6] (fun s4 s5 s6 w1 => s4 = .int .u16 0 ∧ s5 = .int .i64 0 ∧ w1 = w) (fun _ _ _ _ => 0)
  case atStart => exact ⟨rfl, rfl, rfl⟩
  case round =>
    obtain ⟨rfl, rfl, hw⟩ := hrel
    obtain rfl := hw.symm
    go_wp2_with fail
    go_end0
    exact ⟨rfl, rfl⟩
end Go.Proofs.Ygctac
