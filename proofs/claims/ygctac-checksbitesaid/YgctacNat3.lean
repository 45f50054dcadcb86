/-
  nat.Add of nothing and nothing; nat.Succ.
-/
import Derived.Test.YgctacNat2
namespace Go.Proofs.Ygctac
open Go.RowKit
set_option linter.unusedVariables false
set_option linter.unusedSimpArgs false

theorem top_top (f : Nat → Int) (n : Nat) : top f (top f n) = top f n := by
  induction n with
  | zero => rfl
  | succ n ih =>
    by_cases h : f n = 0
    · rw [top_zero h, ih]
    · rw [top_nz h, top_nz h]
theorem top_pos {f : Nat → Int} {n j : Nat} (hj : j < n) (h : f j ≠ 0) : 0 < top f n := by
  induction n with
  | zero => omega
  | succ n ih =>
    by_cases c : f n = 0
    · rw [top_zero c]
      exact ih (by
        rcases Nat.lt_or_ge j n with h' | h'
        · exact h'
        · obtain rfl : j = n := by omega
          exact absurd c h)
    · rw [top_nz c]; omega
theorem size_al (w : World) (o : Obj) : (w.alloc o).heap.size = w.heap.size + 1 := by
  show (w.heap.push o).size = _
  simp
theorem upd_ne {k : Nat → Int} {i j : Nat} (v : Int) (h : j ≠ i) (hq : k j ≠ 0) : (fun j => if j = i then v else k j) j ≠ 0 := by
  simpa [h] using hq
theorem make23s (n : Nat) (hn : n < 140737488355328) (w : World) : (Instr.makeSlice 23 (.int .i64 ((n : Int) + 1)) (.int .i64 ((n : Int) + 1))).run Tacg.prog w = .ok (.slice (some ⟨w.heap.size, 0, none⟩) (n + 1) (n + 1)) (w.alloc (.cells (rowL (n + 1) fun _ => 0).toArray 5)) :=
  make23 (n + 1) (by omega) w

set_option maxRecDepth 100000 in
set_option maxHeartbeats 2000000 in
theorem add_one_row (g m g1 : Nat) (f : Nat → Int) (hm : 0 < m) (hc : m < 140737488355328) (ht : top f m = m) (hf : ∀ i, i < m → 0 ≤ f i ∧ f i < 256) (w : World) (h : RowAt w g m f) (h1 : RowAt w g1 1 (fun _ => 1)) :
    Calls Tacg.prog 36 #[.slice (some ⟨g, 0, none⟩) m m, .slice (some ⟨g1, 0, none⟩) 1 1] w fun r w' => ∃ t k, r = .returned (.slice (some ⟨w.heap.size, 0, none⟩) t t) ∧ 0 < t ∧ t ≤ m + 1 ∧ top k t = t ∧ Cells w' w.heap.size 0 t k ∧ Below w.heap.size w w' := by
  have H := hide h
  have H1 := hide h1
  have HF := hide hf
  have hlt := h.lt
  have hlt1 := h1.lt
  have et := trimR g f m ht hm
  have et1 := trimR g1 (fun _ => 1) 1 rfl (by decide)
  have rm := make23s m hc
  have t0 : ¬ (m : Int) < 1 := by omega
  clear h h1 hf
  go_enter Tacg.func36, Tacg.ntmps36
  go_wp2_with (first | (go_at_call_of 70 (Value.slice (some ⟨g1, 0, none⟩) 1 1); refine (trim_any g1 0 1 1 (fun _ => 1) (Nat.le_refl _) (by decide) _ H1.out.cells).mono ?_; rw [et1]; rintro e w' ⟨rfl, hw⟩; obtain rfl := hw.symm) | (go_at_call_of 70 (Value.slice (some ⟨g, 0, none⟩) m m); refine (trim_any g 0 m m f (Nat.le_refl _) (by omega) _ H.out.cells).mono ?_; rw [et]; rintro e w' ⟨rfl, hw⟩; obtain rfl := hw.symm))
  go_loopw [6, 7, 8] (fun s6 s7 s8 w1 => ∃ (i : Nat) (c : Int) (k : Nat → Int), s6 = .int .u16 c ∧ 0 ≤ c ∧ c ≤ 1 ∧ s7 = .int .i64 i ∧ i ≤ m ∧ Hid (0 < i → c ≠ 0 ∨ ∃ j, j < i ∧ k j ≠ 0) ∧ Hid (RowAt w1 w.heap.size (m + 1) k) ∧ Hid (Below w.heap.size w w1)) (fun _ s7 _ _ => m - (intOf s7).toNat)
  case atStart => exact ⟨0, 0, fun _ => 0, rfl, by omega, by omega, rfl, Nat.zero_le _, fun h => absurd h (by decide), RowAt.new w (m + 1) _, (Below.refl _ _).alloc (Nat.le_refl _) _⟩
  case round =>
    obtain ⟨i, c, k, rfl, c0, c1, rfl, hi, hN, hR, hB⟩ := hrel
    by_cases hc' : i < m
    · have hi' : (i : Int) < (m : Int) := by omega
      have hx := (H.out.below hB.out hlt).cell i hc'
      have ho := hR.out.cell i (by omega)
      have hz := hR.out.frozen i
      have f0 := (HF.out i hc').1
      have f1 := (HF.out i hc').2
      have b1 : (i : Int) < (m : Int) + 1 := by omega
      rcases Nat.eq_zero_or_pos i with rfl | hp
      · have hy := (H1.out.below hB.out hlt1).cell 0 (by decide)
        go_wp2
        go_roundw
        case rel =>
          refine ⟨1, (f 0 + c + 1) / 256, fun j => if j = 0 then (f 0 + c + 1) % 256 else k j, rfl, by omega, by omega, rfl, by omega, fun _ => ?_, hR.out.set 0 (by omega) _, hB.out.setCell (Nat.le_refl _) _⟩
          by_cases hq : (f 0 + c + 1) % 256 = 0
          · left; omega
          · exact .inr ⟨0, by decide, by simpa using hq⟩
        case measure => simp [intOf] <;> omega
      · have hp' : ¬ (i : Int) < 1 := by omega
        go_wp2
        go_roundw
        case rel =>
          refine ⟨i + 1, (f i + c) / 256, fun j => if j = i then (f i + c) % 256 else k j, rfl, by omega, by omega, by go_num, by omega, fun _ => ?_, hR.out.set i (by omega) _, hB.out.setCell (Nat.le_refl _) _⟩
          rcases hN.out hp with hq | ⟨j, hj, hq⟩
          · by_cases hr : (f i + c) % 256 = 0
            · left; omega
            · exact .inr ⟨i, by omega, by simpa using hr⟩
          · exact .inr ⟨j, by omega, upd_ne _ (by omega) hq⟩
        case measure => simp [intOf] <;> omega
    · obtain rfl : i = m := by omega
      have ho := hR.out.cell i (by omega)
      have hz := hR.out.frozen i
      have b1 : (i : Int) < (i : Int) + 1 := by omega
      have b2 : c % 256 = c := by omega
      have hR' := hide (hR.out.set i (by omega) c)
      have hB' := hide (hB.out.setCell (p := ⟨w.heap.size, i, none⟩) (Nat.le_refl _) (.int .u8 c))
      have hpos : 0 < top (fun j => if j = i then c else k j) (i + 1) := by
        rcases hN.out hm with hq | ⟨j, hj, hq⟩
        · exact top_pos (j := i) (by omega) (by simpa using hq)
        · exact top_pos (j := j) (by omega) (upd_ne _ (by omega) hq)
      have hle := top_le (fun j => if j = i then c else k j) (i + 1)
      have htt := top_top (fun j => if j = i then c else k j) (i + 1)
      generalize hK : (fun j => if j = i then c else k j) = K at *
      have et2 : trimV w.heap.size 0 K (i + 1) = .slice (some ⟨w.heap.size, 0, none⟩) (top K (i + 1)) (top K (i + 1)) := by unfold trimV; rw [if_neg (by omega)]
      clear hR hB hK hN
      go_wp2_with (go_at_call 70; refine (trim_any w.heap.size 0 (i + 1) (i + 1) K (Nat.le_refl _) (by omega) _ hR'.out.cells).mono ?_; rw [et2]; rintro e w' ⟨rfl, hw⟩; obtain rfl := hw.symm)
      go_ret
      exact ⟨top K (i + 1), K, rfl, hpos, hle, htt, fun j hj => hR'.out.cells j (by omega), hB'.out⟩

set_option maxRecDepth 100000 in
set_option maxHeartbeats 2000000 in
theorem add_one_nil (g1 : Nat) (w : World) (h1 : RowAt w g1 1 (fun _ => 1)) :
    Calls Tacg.prog 36 #[.slice none 0 0, .slice (some ⟨g1, 0, none⟩) 1 1] w fun r w' => ∃ t k, r = .returned (.slice (some ⟨w.heap.size, 0, none⟩) t t) ∧ 0 < t ∧ t ≤ 2 ∧ top k t = t ∧ Cells w' w.heap.size 0 t k ∧ Below w.heap.size w w' := by
  have H1 := hide h1
  have hlt1 := h1.lt
  have et1 := trimR g1 (fun _ => 1) 1 rfl (by decide)
  have rm : ∀ w : World, (Instr.makeSlice 23 (.int .i64 2) (.int .i64 2)).run Tacg.prog w = .ok (.slice (some ⟨w.heap.size, 0, none⟩) 2 2) (w.alloc (.cells (rowL 2 fun _ => 0).toArray 5)) := make23 2 (by omega)
  clear h1
  go_enter Tacg.func36, Tacg.ntmps36
  go_wp2_with (first | (go_at_call_of 70 (Value.slice (some ⟨g1, 0, none⟩) 1 1); refine (trim_any g1 0 1 1 (fun _ => 1) (Nat.le_refl _) (by decide) _ H1.out.cells).mono ?_; rw [et1]; rintro e w' ⟨rfl, hw⟩; obtain rfl := hw.symm) | (go_at_call_of 70 (Value.slice none 0 0); refine (trim_nil _).mono ?_; rintro e w' ⟨rfl, hw⟩; obtain rfl := hw.symm))
  go_loopw [6, 7, 8] (fun s6 s7 s8 w1 => ∃ (i : Nat), s6 = .int .u16 0 ∧ s7 = .int .i64 i ∧ i ≤ 1 ∧ Hid (RowAt w1 w.heap.size 2 (fun j => if j = 0 then (i : Int) else 0)) ∧ Hid (Below w.heap.size w w1)) (fun _ s7 _ _ => 1 - (intOf s7).toNat)
  case atStart =>
    refine ⟨0, rfl, rfl, by decide, (RowAt.new w 2 fun _ => 0).ext ?_, (Below.refl _ _).alloc (Nat.le_refl _) _⟩
    funext j; split <;> rfl
  case round =>
    obtain ⟨i, rfl, rfl, hi, hR, hB⟩ := hrel
    rcases Nat.eq_zero_or_pos i with rfl | hp
    · have hy := (H1.out.below hB.out hlt1).cell 0 (by decide)
      have ho := hR.out.cell 0 (by decide)
      have hz := hR.out.frozen 0
      go_wp2
      go_roundw
      case rel =>
        refine ⟨1, rfl, rfl, by decide, (hR.out.set 0 (by decide) 1).ext ?_, hB.out.setCell (Nat.le_refl _) _⟩
        funext j
        by_cases c : j = 0 <;> simp [c]
      case measure => simp [intOf]
    · obtain rfl : i = 1 := by omega
      have ho := hR.out.cell 1 (by decide)
      have hz := hR.out.frozen 1
      have hR' := hide ((hR.out.set 1 (by decide) 0).ext (f' := fun j => if j = 0 then 1 else 0) (by
        funext j
        by_cases c : j = 1
        · subst c; simp
        · simp [c]))
      have hB' := hide (hB.out.setCell (p := ⟨w.heap.size, 1, none⟩) (Nat.le_refl _) (.int .u8 0))
      have et2 : trimV w.heap.size 0 (fun j => if j = 0 then 1 else 0) 2 = .slice (some ⟨w.heap.size, 0, none⟩) 1 1 := by simp [trimV, top]
      clear hR hB
      go_wp2_with (go_at_call 70; refine (trim_any w.heap.size 0 2 2 (fun j => if j = 0 then 1 else 0) (Nat.le_refl _) (by omega) _ hR'.out.cells).mono ?_; rw [et2]; rintro e w' ⟨rfl, hw⟩; obtain rfl := hw.symm)
      go_ret
      exact ⟨1, fun j => if j = 0 then 1 else 0, rfl, by decide, by decide, by simp [top], fun j hj => hR'.out.cells j (by omega), hB'.out⟩

/-- No digits: nil, or an empty row. -/
def Emp (v : Value) : Prop := v = .slice none 0 0 ∨ ∃ b o, v = .slice (some ⟨b, o, none⟩) 0 0
theorem trim_emp {v : Value} (h : Emp v) (w : World) : Calls Tacg.prog 70 #[v] w fun r w' => r = .returned (.slice none 0 0) ∧ w' = w := by
  rcases h with rfl | ⟨b, o, rfl⟩
  · exact trim_nil w
  · exact trim_any b o 0 0 (fun _ => 0) (Nat.le_refl _) (by omega) w (fun i hi => absurd hi (by omega))
theorem normal_emp {v : Value} (h : Emp v) (w : World) : Calls Tacg.prog 73 #[v] w fun r w' => r = .returned (.slice none 0 0) ∧ w' = w := by
  rcases h with rfl | ⟨b, o, rfl⟩
  · exact normal_nil w
  · exact normal_any b o 0 0 (fun _ => 0) (Nat.le_refl _) (by omega) w (fun i hi => absurd hi (by omega))
theorem strip_emp {v : Value} (h : Emp v) (w : World) : Calls Tacg.prog 77 #[v] w fun r w' => r = .returned (.slice none 0 0) ∧ w' = w := by
  rcases h with rfl | ⟨b, o, rfl⟩
  · exact strip_nil w
  · exact strip_any b o 0 0 (fun _ => 0) (Nat.le_refl _) (by omega) w (fun i hi => absurd hi (by omega))

set_option maxRecDepth 100000 in
set_option maxHeartbeats 2000000 in
theorem add_nil (w : World) :
    Calls Tacg.prog 36 #[.slice none 0 0, .slice none 0 0] w fun r w' => r = .returned (.slice none 0 0) ∧ Below w.heap.size w w' := by
  have rm : ∀ w : World, (Instr.makeSlice 23 (.int .i64 1) (.int .i64 1)).run Tacg.prog w = .ok (.slice (some ⟨w.heap.size, 0, none⟩) 1 1) (w.alloc (.cells (rowL 1 fun _ => 0).toArray 5)) := make23 1 (by omega)
  go_enter Tacg.func36, Tacg.ntmps36
  go_wp2_with (go_at_call 70; refine (trim_nil _).mono ?_; rintro e w' ⟨rfl, hw⟩; obtain rfl := hw.symm)
  go_loopw [6, 7, 8] (fun s6 s7 s8 w1 => s6 = .int .u16 0 ∧ s7 = .int .i64 0 ∧ Hid (RowAt w1 w.heap.size 1 (fun _ => 0)) ∧ Hid (Below w.heap.size w w1)) (fun _ s7 _ _ => 0)
  case atStart => exact ⟨rfl, rfl, RowAt.new w 1 _, (Below.refl _ _).alloc (Nat.le_refl _) _⟩
  case round =>
    obtain ⟨rfl, rfl, hR, hB⟩ := hrel
    have ho := hR.out.cell 0 (by decide)
    have hz := hR.out.frozen 0
    have hR' := hide ((hR.out.set 0 (by decide) 0).ext (f' := fun _ => 0) (by funext j; split <;> rfl))
    have hB' := hide (hB.out.setCell (p := ⟨w.heap.size, 0, none⟩) (Nat.le_refl _) (.int .u8 0))
    have et2 : trimV w.heap.size 0 (fun _ => 0) 1 = .slice none 0 0 := by simp [trimV, top]
    clear hR hB
    go_wp2_with (go_at_call 70; refine (trim_any w.heap.size 0 1 1 (fun _ => 0) (Nat.le_refl _) (by omega) _ hR'.out.cells).mono ?_; rw [et2]; rintro e w' ⟨rfl, hw⟩; obtain rfl := hw.symm)
    go_ret
    exact ⟨rfl, hB'.out⟩
set_option maxRecDepth 100000 in
set_option maxHeartbeats 2000000 in
theorem add_emp (b1 o1 b2 o2 : Nat) (w : World) :
    Calls Tacg.prog 36 #[.slice (some ⟨b1, o1, none⟩) 0 0, .slice (some ⟨b2, o2, none⟩) 0 0] w fun r w' => r = .returned (.slice none 0 0) ∧ Below w.heap.size w w' := by
  have rm : ∀ w : World, (Instr.makeSlice 23 (.int .i64 1) (.int .i64 1)).run Tacg.prog w = .ok (.slice (some ⟨w.heap.size, 0, none⟩) 1 1) (w.alloc (.cells (rowL 1 fun _ => 0).toArray 5)) := make23 1 (by omega)
  go_enter Tacg.func36, Tacg.ntmps36
  go_wp2_with (first | (go_at_call_of 70 (Value.slice (some ⟨b1, o1, none⟩) 0 0); refine (trim_emp (.inr ⟨b1, o1, rfl⟩) _).mono ?_; rintro e w' ⟨rfl, hw⟩; obtain rfl := hw.symm) | (go_at_call_of 70 (Value.slice (some ⟨b2, o2, none⟩) 0 0); refine (trim_emp (.inr ⟨b2, o2, rfl⟩) _).mono ?_; rintro e w' ⟨rfl, hw⟩; obtain rfl := hw.symm))
  go_loopw [6, 7, 8] (fun s6 s7 s8 w1 => s6 = .int .u16 0 ∧ s7 = .int .i64 0 ∧ Hid (RowAt w1 w.heap.size 1 (fun _ => 0)) ∧ Hid (Below w.heap.size w w1)) (fun _ s7 _ _ => 0)
  case atStart => exact ⟨rfl, rfl, RowAt.new w 1 _, (Below.refl _ _).alloc (Nat.le_refl _) _⟩
  case round =>
    obtain ⟨rfl, rfl, hR, hB⟩ := hrel
    have ho := hR.out.cell 0 (by decide)
    have hz := hR.out.frozen 0
    have hR' := hide ((hR.out.set 0 (by decide) 0).ext (f' := fun _ => 0) (by funext j; split <;> rfl))
    have hB' := hide (hB.out.setCell (p := ⟨w.heap.size, 0, none⟩) (Nat.le_refl _) (.int .u8 0))
    have et2 : trimV w.heap.size 0 (fun _ => 0) 1 = .slice none 0 0 := by simp [trimV, top]
    clear hR hB
    go_wp2_with (go_at_call 70; refine (trim_any w.heap.size 0 1 1 (fun _ => 0) (Nat.le_refl _) (by omega) _ hR'.out.cells).mono ?_; rw [et2]; rintro e w' ⟨rfl, hw⟩; obtain rfl := hw.symm)
    go_ret
    exact ⟨rfl, hB'.out⟩

/-- What a number looks like that Take has handed out. -/
def NatAt (w : World) (v : Value) : Prop := v = .slice none 0 0 ∨ ∃ g m f, v = .slice (some ⟨g, 0, none⟩) m m ∧ 0 < m ∧ m ≤ 1024 ∧ top f m = m ∧ (∀ i, i < m → 0 ≤ f i ∧ f i < 256) ∧ RowAt w g m f
theorem NatAt.below {w w' : World} {v : Value} (h : NatAt w v) (hb : Below w.heap.size w w') : NatAt w' v := by
  rcases h with h | ⟨g, m, f, h1, h2, h3, h4, h5, h6⟩
  · exact .inl h
  · exact .inr ⟨g, m, f, h1, h2, h3, h4, h5, h6.below hb h6.lt⟩

set_option maxRecDepth 100000 in
theorem succ_any {x : Value} (w : World) (hx : NatAt w x) :
    Calls Tacg.prog 35 #[x] w fun r w' => ∃ g t k, r = .returned (.slice (some ⟨g, 0, none⟩) t t) ∧ 0 < t ∧ t ≤ 1025 ∧ top k t = t ∧ Cells w' g 0 t k ∧ Below w.heap.size w w' := by
  have HR := hide (RowAt.new w 1 fun _ => 1)
  have hB0 := hide ((Below.refl w.heap.size w).alloc (Nat.le_refl _) (.cells #[.int .u8 1] 5))
  rcases hx with rfl | ⟨g, m, f, rfl, hm, hm', ht, hf, hR⟩
  · go_enter Tacg.func35, Tacg.ntmps35
    go_wp2_with fail
    refine (add_one_nil w.heap.size _ HR.out).mono ?_
    rintro e w' ⟨t, k, rfl, t1, t2, t3, t4, t5⟩
    rw [size_al] at t4 t5
    go_wp2
    go_ret
    exact ⟨_, t, k, rfl, t1, by omega, t3, t4, hB0.out.trans (t5.mono (by omega))⟩
  · have H := hide (hR.alloc (.cells #[.int .u8 1] 5))
    have HF := hide hf
    clear hR hf
    go_enter Tacg.func35, Tacg.ntmps35
    go_wp2_with fail
    refine (add_one_row g m w.heap.size f hm (by omega) ht HF.out _ H.out HR.out).mono ?_
    rintro e w' ⟨t, k, rfl, t1, t2, t3, t4, t5⟩
    rw [size_al] at t4 t5
    go_wp2
    go_ret
    exact ⟨_, t, k, rfl, t1, by omega, t3, t4, hB0.out.trans (t5.mono (by omega))⟩
end Go.Proofs.Ygctac
