/-
  Numbers in memory, whatever their digits; strip, normal, trim; MulSchool.
-/
import Derived.Test.YgctacCopies
namespace Go.Proofs.Ygctac
open Go.RowKit
set_option linter.unusedVariables false
set_option linter.unusedSimpArgs false

/-- n digits. -/
def Dg (f : Nat → Int) (n : Nat) : Prop := ∀ i, i < n → 0 ≤ f i ∧ f i < 256
theorem Dg.le {f : Nat → Int} {n m : Nat} (h : Dg f n) (hm : m ≤ n) : Dg f m := fun i hi => h i (by omega)
/-- A slice that reads as n digits. -/
def Rd (w : World) (v : Value) (n : Nat) : Prop := (v = .slice none 0 0 ∧ n = 0) ∨ ∃ b o c f, v = .slice (some ⟨b, o, none⟩) n c ∧ n ≤ c ∧ c ≤ 140737488355328 ∧ Dg f n ∧ Cells w b o n f
/-- A slice that reads as a number of at most L digits, none at the top 0. -/
def Nm (w : World) (v : Value) (L : Nat) : Prop := v = .slice none 0 0 ∨ ∃ b o n f, v = .slice (some ⟨b, o, none⟩) n n ∧ 0 < n ∧ n ≤ L ∧ n ≤ 140737488355328 ∧ top f n = n ∧ Dg f n ∧ Cells w b o n f
/-- The same in memory of its own, from block B on. -/
def NatB (w : World) (v : Value) (B L : Nat) : Prop := v = .slice none 0 0 ∨ ∃ g n f, v = .slice (some ⟨g, 0, none⟩) n n ∧ B ≤ g ∧ 0 < n ∧ n ≤ L ∧ n ≤ 140737488355328 ∧ top f n = n ∧ Dg f n ∧ OwnRow w g n f

theorem cells_below {w w' : World} {b o n : Nat} {f : Nat → Int} (h : Cells w b o n f) (hb : Below w.heap.size w w') : Cells w' b o n f := by
  intro i hi
  have hc := h i hi
  rw [hb.cell (World.block_lt_of_cell? w _ hc), hc]
theorem Rd.below {w w' : World} {v : Value} {n : Nat} (h : Rd w v n) (hb : Below w.heap.size w w') : Rd w' v n := by
  rcases h with h | ⟨b, o, c, f, h1, h2, h3, h4, h5⟩
  · exact .inl h
  · exact .inr ⟨b, o, c, f, h1, h2, h3, h4, cells_below h5 hb⟩
theorem Nm.below {w w' : World} {v : Value} {n : Nat} (h : Nm w v n) (hb : Below w.heap.size w w') : Nm w' v n := by
  rcases h with h | ⟨b, o, m, f, h1, h2, h3, h4, h5, h6, h7⟩
  · exact .inl h
  · exact .inr ⟨b, o, m, f, h1, h2, h3, h4, h5, h6, cells_below h7 hb⟩
theorem NatB.below {w w' : World} {v : Value} {B L : Nat} (h : NatB w v B L) (hb : Below w.heap.size w w') : NatB w' v B L := by
  rcases h with h | ⟨g, m, f, h1, h2, h3, h4, h5, h6, h7, h8⟩
  · exact .inl h
  · exact .inr ⟨g, m, f, h1, h2, h3, h4, h5, h6, h7, h8.below hb h8.lt⟩
theorem NatB.nm {w : World} {v : Value} {B L : Nat} (h : NatB w v B L) : Nm w v L := by
  rcases h with h | ⟨g, m, f, h1, h2, h3, h4, h5, h6, h7, h8⟩
  · exact .inl h
  · exact .inr ⟨g, 0, m, f, h1, h3, h4, h5, h6, h7, h8.cells⟩
theorem NatB.mono {w : World} {v : Value} {B L B' L' : Nat} (h : NatB w v B L) (hB : B' ≤ B) (hL : L ≤ L') : NatB w v B' L' := by
  rcases h with h | ⟨g, m, f, h1, h2, h3, h4, h5⟩
  · exact .inl h
  · exact .inr ⟨g, m, f, h1, by omega, h3, by omega, h5⟩
theorem Nm.rd {w : World} {v : Value} {L : Nat} (h : Nm w v L) : ∃ n, n ≤ L ∧ Rd w v n := by
  rcases h with h | ⟨b, o, m, f, h1, h2, h3, h4, h5, h6, h7⟩
  · exact ⟨0, by omega, .inl ⟨h, rfl⟩⟩
  · exact ⟨m, h3, .inr ⟨b, o, m, f, h1, Nat.le_refl _, h4, h6, h7⟩⟩

theorem nm_trimV {w : World} {b o n c : Nat} {f : Nat → Int} (hn : n ≤ 140737488355328) (hd : Dg f n) (h : Cells w b o n f) : Nm w (trimV b o f n) n := by
  unfold trimV
  have ht := top_le f n
  by_cases c0 : top f n = 0
  · rw [if_pos c0]; exact .inl rfl
  · rw [if_neg c0]
    exact .inr ⟨b, o, top f n, f, rfl, by omega, ht, by omega, top_top _ _, hd.le ht, fun i hi => h i (by omega)⟩
theorem strip_rd {v : Value} {n : Nat} (w : World) (h : Rd w v n) : Calls Tacg.prog 77 #[v] w fun r w' => ∃ s, r = .returned s ∧ Nm w s n ∧ w' = w := by
  rcases h with ⟨rfl, rfl⟩ | ⟨b, o, c, f, rfl, h2, h3, h4, h5⟩
  · exact (strip_nil w).mono (by rintro r w' ⟨rfl, rfl⟩; exact ⟨_, rfl, .inl rfl, rfl⟩)
  · exact (strip_any b o n c f h2 h3 w h5).mono (by rintro r w' ⟨rfl, rfl⟩; exact ⟨_, rfl, nm_trimV (c := c) (by omega) h4 h5, rfl⟩)
theorem normal_rd {v : Value} {n : Nat} (w : World) (h : Rd w v n) : Calls Tacg.prog 73 #[v] w fun r w' => ∃ s, r = .returned s ∧ Nm w s n ∧ w' = w := by
  rcases h with ⟨rfl, rfl⟩ | ⟨b, o, c, f, rfl, h2, h3, h4, h5⟩
  · exact (normal_nil w).mono (by rintro r w' ⟨rfl, rfl⟩; exact ⟨_, rfl, .inl rfl, rfl⟩)
  · exact (normal_any b o n c f h2 h3 w h5).mono (by rintro r w' ⟨rfl, rfl⟩; exact ⟨_, rfl, nm_trimV (c := c) (by omega) h4 h5, rfl⟩)
theorem trim_rd {v : Value} {n : Nat} (w : World) (h : Rd w v n) : Calls Tacg.prog 70 #[v] w fun r w' => ∃ s, r = .returned s ∧ Nm w s n ∧ w' = w := by
  rcases h with ⟨rfl, rfl⟩ | ⟨b, o, c, f, rfl, h2, h3, h4, h5⟩
  · exact (trim_nil w).mono (by rintro r w' ⟨rfl, rfl⟩; exact ⟨_, rfl, .inl rfl, rfl⟩)
  · exact (trim_any b o n c f h2 h3 w h5).mono (by rintro r w' ⟨rfl, rfl⟩; exact ⟨_, rfl, nm_trimV (c := c) (by omega) h4 h5, rfl⟩)
/-- Of a row of one's own. -/
theorem natB_trimV {w : World} {g n B : Nat} {f : Nat → Int} (hn : n ≤ 140737488355328) (hB : B ≤ g) (hd : Dg f n) (h : OwnRow w g n f) : NatB w (trimV g 0 f n) B n := by
  unfold trimV
  have ht := top_le f n
  by_cases c0 : top f n = 0
  · rw [if_pos c0]; exact .inl rfl
  · rw [if_neg c0]
    exact .inr ⟨g, top f n, f, rfl, hB, by omega, ht, by omega, top_top _ _, hd.le ht, h.le ht⟩

theorem make23a (n m : Nat) (hn : n + m ≤ 140737488355328) (w : World) : (Instr.makeSlice 23 (.int .i64 ((n : Int) + (m : Int))) (.int .i64 ((n : Int) + (m : Int)))).run Tacg.prog w = .ok (.slice (some ⟨w.heap.size, 0, none⟩) (n + m) (n + m)) (w.alloc (.cells (rowL (n + m) fun _ => 0).toArray 5)) := by
  have := make23 (n + m) hn w
  rwa [Int.natCast_add] at this
theorem Dg.zero (n : Nat) : Dg (fun _ => 0) n := fun _ _ => ⟨Int.le_refl 0, (by decide : (0 : Int) < 256)⟩
theorem beq0 {n : Nat} (h : 0 < n) : ((n : Int) == 0) = false := by simp; omega
theorem Dg.put {f : Nat → Int} {n : Nat} (h : Dg f n) (i : Nat) {z : Int} (h0 : 0 ≤ z) (h1 : z < 256) : Dg (fun j => if j = i then z else f j) n := by
  intro j hj
  by_cases e : j = i
  · simp only [e, if_true]; exact ⟨h0, h1⟩
  · simp only [e, if_false]; exact h j hj

set_option maxRecDepth 100000 in
set_option maxHeartbeats 4000000 in
theorem school_gen (b o n b' o' m : Nat) (f f' : Nat → Int) (hn : 0 < n) (hm : 0 < m) (hnm : n + m ≤ 140737488355328) (hf : Dg f n) (hf' : Dg f' m) (w : World) (h : Cells w b o n f) (h' : Cells w b' o' m f') (u v : Value)
    (hu : ∀ w2 : World, Calls Tacg.prog 77 #[u] w fun r w' => r = .returned (.slice (some ⟨b, o, none⟩) n n) ∧ w' = w) (hv : ∀ w2 : World, Calls Tacg.prog 77 #[v] w fun r w' => r = .returned (.slice (some ⟨b', o', none⟩) m m) ∧ w' = w) :
    Calls Tacg.prog 18 #[u, v] w fun r w' => ∃ x, r = .returned x ∧ NatB w' x w.heap.size (n + m) ∧ Below w.heap.size w w' := by
  have HU := hide (hu w)
  have HV := hide (hv w)
  have H := hide h
  have H' := hide h'
  have HF := hide hf
  have HF' := hide hf'
  have rm := make23a n m hnm
  have n0 := beq0 hn
  have m0 := beq0 hm
  clear hu hv h h' hf hf'
  go_enter Tacg.func18, Tacg.ntmps18
  go_wp2_with fail
  refine HU.out.mono ?_
  rintro e w' ⟨rfl, hw⟩; obtain rfl := hw.symm
  go_wp2_with fail
  refine HV.out.mono ?_
  rintro e w' ⟨rfl, hw⟩; obtain rfl := hw.symm
  clear HU HV hw
  go_wp2_with fail
  go_loopw [6, 7, 8, 9] (fun s6 s7 s8 s9 w1 => ∃ (i : Nat) (k : Nat → Int) (W : World), s6 = .int .i64 i ∧ i ≤ n ∧ w1 = W ∧ Hid (Dg k (n + m)) ∧ Hid (RowAt W w.heap.size (n + m) k) ∧ Hid (Below w.heap.size w W)) (fun s6 _ _ _ _ => n - (intOf s6).toNat)
  case atStart => exact ⟨0, _, _, rfl, by omega, rfl, hide (Dg.zero _), RowAt.new w (n + m) _, (Below.refl _ _).alloc (Nat.le_refl _) _⟩
  case round =>
    obtain ⟨i, k, W, rfl, hi, hw, hK, hR, hB⟩ := hrel
    obtain rfl := hw.symm
    clear hw rm
    by_cases ci : i < n
    · have ci' : (i : Int) < (n : Int) := by omega
      go_wp2_with fail
      go_loopw [7, 8, 9] (fun s7 s8 s9 w1 => ∃ (c : Int) (j : Nat) (k : Nat → Int) (W : World), s7 = .int .u32 c ∧ s8 = .int .i64 j ∧ j ≤ m ∧ w1 = W ∧ Hid (Dg k (n + m)) ∧ Hid (RowAt W w.heap.size (n + m) k) ∧ Hid (Below w.heap.size w W)) (fun _ s8 _ _ => m - (intOf s8).toNat)
      case atStart => exact ⟨0, 0, k, W, rfl, rfl, by omega, rfl, hK, hR, hB⟩
      case round =>
        obtain ⟨c, j, k1, W1, rfl, rfl, hj, hw, hK1, hR1, hB1⟩ := hrel
        obtain rfl := hw.symm
        clear hw hK hR hB
        by_cases cj : j < m
        · have cj' : (j : Int) < (m : Int) := by omega
          have cij : (i : Int) + (j : Int) < (n : Int) + (m : Int) := by omega
          have hca := cells_below H.out hB1.out i ci
          have hcb := cells_below H'.out hB1.out j cj
          have hco := hR1.out.cell (i + j) (by omega)
          have hfo := hR1.out.frozen (i + j)
          go_wp2_with fail
          go_quiet (fail)
          go_wp2_with fail
          go_roundw
          case rel => exact ⟨_, j + 1, _, _, rfl, by go_num, by omega, rfl, hide (hK1.out.put (i + j) (Int.emod_nonneg _ (by decide)) (Int.emod_lt_of_pos _ (by decide))), hide (RowAt.set (w := W1.drewN nq) hR1.out (i + j) (by omega) _), hide ((below_dN hB1.out nq).setCell (p := ⟨w.heap.size, i + j, none⟩) (Nat.le_refl _) _)⟩
          case measure => simp [intOf] <;> omega
        · obtain rfl : j = m := by omega
          have cij : (i : Int) + (j : Int) < (n : Int) + (j : Int) := by omega
          have hco := hR1.out.cell (i + j) (by omega)
          have hfo := hR1.out.frozen (i + j)
          go_wp2_with fail
          go_roundw
          case rel => exact ⟨i + 1, _, _, by go_num, by omega, rfl, hide (hK1.out.put (i + j) (Int.emod_nonneg _ (by decide)) (Int.emod_lt_of_pos _ (by decide))), hide (hR1.out.set (i + j) (by omega) _), hide (hB1.out.setCell (p := ⟨w.heap.size, i + j, none⟩) (Nat.le_refl _) _)⟩
          case measure => simp [intOf] <;> omega
    · obtain rfl : i = n := by omega
      go_wp2_with (go_at_call 77; refine (strip_any w.heap.size 0 (i + m) (i + m) k (Nat.le_refl _) hnm _ hR.out.cells).mono ?_; rintro e w' ⟨rfl, hw⟩; obtain rfl := hw.symm)
      go_ret
      exact ⟨_, rfl, natB_trimV hnm (Nat.le_refl _) hK.out hR.out.own, hB.out⟩

theorem strip_nm {w : World} {b o n : Nat} {f : Nat → Int} (hn : 0 < n) (hc : n ≤ 140737488355328) (ht : top f n = n) (h : Cells w b o n f) : Calls Tacg.prog 77 #[.slice (some ⟨b, o, none⟩) n n] w fun r w' => r = .returned (.slice (some ⟨b, o, none⟩) n n) ∧ w' = w := by
  have := strip_any b o n n f (Nat.le_refl _) hc w h
  have e : trimV b o f n = .slice (some ⟨b, o, none⟩) n n := by unfold trimV; rw [ht, if_neg (by omega)]
  rwa [e] at this
theorem school_nilL (v : Value) (w : World) (n : Nat) (h : Rd w v n) : Calls Tacg.prog 18 #[.slice none 0 0, v] w fun r w' => r = .returned (.slice none 0 0) ∧ w' = w := by
  have HV := hide (strip_rd w h)
  go_enter Tacg.func18, Tacg.ntmps18
  go_wp2_with fail
  refine (strip_nil w).mono ?_
  rintro e w' ⟨rfl, hw⟩; obtain rfl := hw.symm
  go_wp2_with fail
  refine HV.out.mono ?_
  rintro e w' ⟨s, rfl, _, hw⟩; obtain rfl := hw.symm
  go_wp2_with fail
  go_ret
  exact ⟨rfl, rfl⟩
theorem school_nilR (v : Value) (w : World) (n : Nat) (h : Nm w v n) : Calls Tacg.prog 18 #[v, .slice none 0 0] w fun r w' => r = .returned (.slice none 0 0) ∧ w' = w := by
  rcases h with rfl | ⟨b, o, n, f, rfl, h2, h3, h4, h5, h6, h7⟩
  · exact school_nilL _ w 0 (.inl ⟨rfl, rfl⟩)
  · have HV := hide (strip_nm h2 h4 h5 h7)
    have n0 := beq0 h2
    go_enter Tacg.func18, Tacg.ntmps18
    go_wp2_with fail
    refine HV.out.mono ?_
    rintro e w' ⟨rfl, hw⟩; obtain rfl := hw.symm
    go_wp2_with fail
    refine (strip_nil w).mono ?_
    rintro e w' ⟨rfl, hw⟩; obtain rfl := hw.symm
    go_wp2_with fail
    go_ret
    exact ⟨rfl, rfl⟩
/-- MulSchool of normal numbers. -/
theorem school_any {u v : Value} {n m : Nat} (hnm : n + m ≤ 140737488355328) (w : World) (hu : Nm w u n) (hv : Nm w v m) :
    Calls Tacg.prog 18 #[u, v] w fun r w' => ∃ x, r = .returned x ∧ NatB w' x w.heap.size (n + m) ∧ Below w.heap.size w w' := by
  have hu0 := hu
  have hv0 := hv
  rcases hu with rfl | ⟨b, o, n1, f, rfl, h2, h3, h4, h5, h6, h7⟩
  · obtain ⟨q, _, hq⟩ := hv.rd
    exact (school_nilL v w q hq).mono (by rintro r w' ⟨rfl, rfl⟩; exact ⟨_, rfl, .inl rfl, Below.refl _ _⟩)
  · rcases hv with rfl | ⟨b', o', m1, f', rfl, k2, k3, k4, k5, k6, k7⟩
    · exact (school_nilR _ w n hu0).mono (by rintro r w' ⟨rfl, rfl⟩; exact ⟨_, rfl, .inl rfl, Below.refl _ _⟩)
    · refine (school_gen b o n1 b' o' m1 f f' h2 k2 (by omega) h6 k6 w h7 k7 _ _ (fun _ => strip_nm h2 h4 h5 h7) (fun _ => strip_nm k2 k4 k5 k7)).mono ?_
      rintro r w' ⟨x, rfl, hx, hB⟩
      exact ⟨x, rfl, hx.mono (Nat.le_refl _) (by omega), hB⟩
end Go.Proofs.Ygctac
