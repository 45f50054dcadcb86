/-
  Take, Add and Sub with nothing, as copies.
-/
import Derived.Test.YgctacCopy1
namespace Go.Proofs.Ygctac
open Go.RowKit
set_option linter.unusedVariables false
set_option linter.unusedSimpArgs false

set_option maxRecDepth 100000 in
set_option maxHeartbeats 1000000 in
theorem takeZ (b o n c : Nat) (f : Nat → Int) (hn : n ≤ c) (hc : n ≤ 140737488355328) (w : World) (h : Cells w b o n f) (hz : top f (min n 1024) = 0) :
    Calls Tacg.prog 14 #[.slice (some ⟨b, o, none⟩) n c] w fun r w' => r = .returned (.slice none 0 0) ∧ w' = w := by
  have H := hide h
  clear h
  by_cases c1 : n ≤ 1024
  · have e1 : min n 1024 = n := by omega
    rw [e1] at hz
    have t1 : ¬ (1024 : Int) < (n : Int) := by omega
    have et : trimV b o f n = .slice none 0 0 := by unfold trimV; rw [if_pos hz]
    go_enter Tacg.func14, Tacg.ntmps14
    go_wp2_with (go_at_call 70; refine (trim_any b o n n f (Nat.le_refl _) (by omega) _ H.out).mono ?_; rw [et]; rintro e w' ⟨rfl, hw⟩; obtain rfl := hw.symm)
    go_ret
    exact ⟨rfl, rfl⟩
  · have e1 : min n 1024 = 1024 := by omega
    rw [e1] at hz
    have t1 : (1024 : Int) < (n : Int) := by omega
    have t2 : (1024 : Int) ≤ (c : Int) := by omega
    have et : trimV b o f 1024 = .slice none 0 0 := by unfold trimV; rw [if_pos hz]
    have H' := hide (show Cells w b o 1024 f from fun i hi => H.out i (by omega))
    go_enter Tacg.func14, Tacg.ntmps14
    go_wp2_with (go_at_call 70; refine (trim_any b o 1024 1024 f (Nat.le_refl _) (by omega) _ H'.out).mono ?_; rw [et]; rintro e w' ⟨rfl, hw⟩; obtain rfl := hw.symm)
    go_ret
    exact ⟨rfl, rfl⟩

set_option maxRecDepth 100000 in
set_option maxHeartbeats 1000000 in
theorem takeS (b o n c : Nat) (f : Nat → Int) (hn : n ≤ c) (hc : n ≤ 140737488355328) (w : World) (h : Cells w b o n f) (m : Nat) (hz : top f (min n 1024) = m) (hm : 0 < m) :
    Calls Tacg.prog 14 #[.slice (some ⟨b, o, none⟩) n c] w fun r w' => r = .returned (.slice (some ⟨w.heap.size, 0, none⟩) m m) ∧ Below w.heap.size w w' ∧ RowAt w' w.heap.size m f := by
  have hs : m ≤ 1024 := by have := top_le f (min n 1024); omega
  have hs' : m ≤ n := by have := top_le f (min n 1024); omega
  have rm := make23 m (by omega)
  have HC := hide (take_src h hs' (.cells (rowL m fun _ => 0).toArray 5))
  have H := hide h
  clear h
  by_cases c1 : n ≤ 1024
  · have e1 : min n 1024 = n := by omega
    rw [e1] at hz
    have t1 : ¬ (1024 : Int) < (n : Int) := by omega
    have et : trimV b o f n = .slice (some ⟨b, o, none⟩) m m := by unfold trimV; rw [hz, if_neg (by omega)]
    go_enter Tacg.func14, Tacg.ntmps14
    go_wp2_with (first | (go_at_call 70; refine (trim_any b o n n f (Nat.le_refl _) (by omega) _ H.out).mono ?_; rw [et]; rintro e w' ⟨rfl, hw⟩; obtain rfl := hw.symm) | (refine wpList_copy_splice rfl (.tmp 20) (.tmp 21) 23 23 rfl 5 Tacg.underlying23 size5 _ _ m m m m rfl rfl w.heap.size 0 (rowL m fun _ => 0) 5 (alloc_last _ _) (rowL m f) (by rw [rowL_length]; exact (Nat.min_self m).symm) (fun _ => ⟨rfl, ⟨b, o, none⟩, rfl, HC.out⟩) (by simp [rowL_length]) (rowL_one _ _) w.heap.size w ((Below.refl _ _).alloc (Nat.le_refl _) _) (Nat.le_refl _) ?_; intro w2 hg2 hb2))
    go_ret
    refine ⟨rfl, hb2, ?_⟩
    have := hg2.out
    rwa [splice_whole _ _ (by simp [rowL_length])] at this
  · have e1 : min n 1024 = 1024 := by omega
    rw [e1] at hz
    have t1 : (1024 : Int) < (n : Int) := by omega
    have t2 : (1024 : Int) ≤ (c : Int) := by omega
    have et : trimV b o f 1024 = .slice (some ⟨b, o, none⟩) m m := by unfold trimV; rw [hz, if_neg (by omega)]
    have H' := hide (show Cells w b o 1024 f from fun i hi => H.out i (by omega))
    go_enter Tacg.func14, Tacg.ntmps14
    go_wp2_with (first | (go_at_call 70; refine (trim_any b o 1024 1024 f (Nat.le_refl _) (by omega) _ H'.out).mono ?_; rw [et]; rintro e w' ⟨rfl, hw⟩; obtain rfl := hw.symm) | (refine wpList_copy_splice rfl (.tmp 20) (.tmp 21) 23 23 rfl 5 Tacg.underlying23 size5 _ _ m m m m rfl rfl w.heap.size 0 (rowL m fun _ => 0) 5 (alloc_last _ _) (rowL m f) (by rw [rowL_length]; exact (Nat.min_self m).symm) (fun _ => ⟨rfl, ⟨b, o, none⟩, rfl, HC.out⟩) (by simp [rowL_length]) (rowL_one _ _) w.heap.size w ((Below.refl _ _).alloc (Nat.le_refl _) _) (Nat.le_refl _) ?_; intro w2 hg2 hb2))
    go_ret
    refine ⟨rfl, hb2, ?_⟩
    have := hg2.out
    rwa [splice_whole _ _ (by simp [rowL_length])] at this

theorem take_dig {v : Value} {n : Nat} {f : Nat → Int} (hn : n ≤ 140737488355328) (w : World) (h : Dig w v n f) :
    Calls Tacg.prog 14 #[v] w fun r w' => ∃ x, r = .returned x ∧ NatO w' x w.heap.size (top f (min n 1024)) f ∧ Below w.heap.size w w' := by
  rcases h with ⟨⟨p, rfl⟩, rfl⟩ | ⟨b, o, c, rfl, h3, h4⟩
  · cases p with
    | none =>
      refine (take_nil w).mono ?_
      rintro r w' ⟨rfl, rfl⟩
      exact ⟨_, rfl, .inl ⟨rfl, rfl⟩, Below.refl _ _⟩
    | some ad =>
      refine (take_e0 ad w).mono ?_
      rintro r w' ⟨rfl, rfl⟩
      exact ⟨_, rfl, .inl ⟨rfl, rfl⟩, Below.refl _ _⟩
  · rcases Nat.eq_zero_or_pos (top f (min n 1024)) with hz | hz
    · refine (takeZ b o n c f h3 hn w h4 hz).mono ?_
      rintro r w' ⟨rfl, rfl⟩
      exact ⟨_, rfl, .inl ⟨rfl, hz⟩, Below.refl _ _⟩
    · refine (takeS b o n c f h3 hn w h4 _ rfl hz).mono ?_
      rintro r w' ⟨rfl, hB, hR⟩
      have hl := top_le f (min n 1024)
      exact ⟨_, rfl, .inr ⟨_, rfl, hz, ⟨Nat.le_refl _, by omega⟩, by omega, top_top _ _, hR.own⟩, hB⟩

set_option maxRecDepth 100000 in
set_option maxHeartbeats 1000000 in
theorem cmp_more (g m c : Nat) (f : Nat → Int) (hm : 0 < m) (hmc : m ≤ c) (hc : m ≤ 140737488355328) (hcc : c ≤ 140737488355328) (ht : top f m = m) (w : World) (h : Cells w g 0 m f) :
    Calls Tacg.prog 85 #[.slice (some ⟨g, 0, none⟩) m c, .slice none 0 0] w fun r w' => r = .returned (.int .i8 1) ∧ w' = w := by
  have H := hide h
  have t0 : ¬ (m : Int) < 0 := by omega
  have t1 : ¬ (m : Int) = 0 := by omega
  have et := trimR g f m ht hm
  clear h
  go_enter Tacg.func85, Tacg.ntmps85
  go_wp2_with (first | (go_at_call_of 70 (Value.slice none 0 0); refine (trim_nil _).mono ?_; rintro e w' ⟨rfl, hw⟩; obtain rfl := hw.symm) | (go_at_call_of 70 (Value.slice (some ⟨g, 0, none⟩) m c); refine (trim_any g 0 m c f hmc hcc _ H.out).mono ?_; rw [et]; rintro e w' ⟨rfl, hw⟩; obtain rfl := hw.symm))
  go_ret
  exact ⟨rfl, rfl⟩

theorem top_congr {k f : Nat → Int} {n : Nat} (h : ∀ j, j < n → k j = f j) : top k n = top f n := by
  induction n with
  | zero => rfl
  | succ n ih =>
    have e := h n (by omega)
    by_cases c : f n = 0
    · rw [top_zero c, top_zero (e.trans c)]
      exact ih (fun j hj => h j (by omega))
    · rw [top_nz c, top_nz (fun z => c (e.symm.trans z))]
theorem RowAt.congr {w : World} {g n : Nat} {k f : Nat → Int} (h : RowAt w g n k) (e : ∀ j, j < n → k j = f j) : RowAt w g n f := by
  unfold RowAt at *
  rw [h]
  congr 3
  unfold rowL
  apply List.map_congr_left
  intro j hj
  rw [e j (List.mem_range.1 hj)]
theorem ownRow_set {w : World} {g n : Nat} {f : Nat → Int} (h : RowAt w g n f) (i : Nat) (hi : i < n) (v : Int) : RowAt (w.setCell ⟨g, i, none⟩ (.int .u8 v)) g n (fun j => if j = i then v else f j) := h.set i hi v

set_option maxRecDepth 100000 in
set_option maxHeartbeats 2000000 in
theorem sub_row (g m c : Nat) (f : Nat → Int) (hm : 0 < m) (hmc : m ≤ c) (hm2 : m ≤ 1024) (hcc : c ≤ 140737488355328) (ht : top f m = m) (hf : ∀ i, i < m → 0 ≤ f i ∧ f i < 256) (w : World) (h : OwnRow w g m f) :
    Calls Tacg.prog 34 #[.slice (some ⟨g, 0, none⟩) m c, .slice none 0 0] w fun r w' => r = .returned (.tuple #[.slice (some ⟨w.heap.size, 0, none⟩) m m, .bool true]) ∧ Below w.heap.size w w' ∧ RowAt w' w.heap.size m f := by
  have H := hide h
  have HF := hide hf
  have hlt := h.lt
  have et := trimR g f m ht hm
  have rm := make23 m (by omega)
  clear h hf
  go_enter Tacg.func34, Tacg.ntmps34
  go_wp2_with (first | (go_at_call_of 70 (Value.slice none 0 0); refine (trim_nil _).mono ?_; rintro e w' ⟨rfl, hw⟩; obtain rfl := hw.symm) | (go_at_call_of 70 (Value.slice (some ⟨g, 0, none⟩) m c); refine (trim_any g 0 m c f hmc hcc _ H.out.cells).mono ?_; rw [et]; rintro e w' ⟨rfl, hw⟩; obtain rfl := hw.symm) | (go_at_call 85; refine (cmp_more g m m f hm (Nat.le_refl _) (by omega) (by omega) ht _ H.out.cells).mono ?_; rintro e w' ⟨rfl, hw⟩; obtain rfl := hw.symm))
  go_loopw [7, 8, 9] (fun s7 s8 s9 w1 => ∃ (i : Nat) (k : Nat → Int), s7 = .int .u16 0 ∧ s8 = .int .i64 i ∧ i ≤ m ∧ Hid (∀ j, j < i → k j = f j) ∧ Hid (RowAt w1 w.heap.size m k) ∧ Hid (Below w.heap.size w w1)) (fun _ s8 _ _ => m - (intOf s8).toNat)
  case atStart => exact ⟨0, fun _ => 0, rfl, rfl, Nat.zero_le _, fun j hj => absurd hj (by omega), RowAt.new w m _, (Below.refl _ _).alloc (Nat.le_refl _) _⟩
  case round =>
    obtain ⟨i, k, rfl, rfl, hi, hk, hR, hB⟩ := hrel
    by_cases c : i < m
    · have hi' : (i : Int) < (m : Int) := by omega
      have hn' : ¬ (i : Int) < 0 := by omega
      have hx := (H.out.below hB.out hlt).cell i c
      have ho := hR.out.cell i c
      have hz := hR.out.frozen i
      have f0 := (HF.out i c).1
      have f1 := (HF.out i c).2
      have e1 : f i / 32768 = 0 := by omega
      have e2 : f i % 256 = f i := by omega
      go_wp2
      go_roundw
      case rel =>
        refine ⟨i + 1, fun j => if j = i then f i else k j, rfl, by go_num, by omega, ?_, hR.out.set i c _, hB.out.setCell (Nat.le_refl _) _⟩
        intro j hj
        by_cases e : j = i
        · simp [e]
        · simp only [e, if_false]
          exact hk.out j (by omega)
      case measure => simp [intOf] <;> omega
    · obtain rfl : i = m := by omega
      have hkt : top k i = i := by rw [top_congr hk.out]; exact ht
      have hR' := hide hR.out
      have hRf := hide (hR.out.congr hk.out)
      have et2 := trimR w.heap.size k i hkt hm
      clear hk hR
      go_wp2_with (go_at_call 70; refine (trim_any w.heap.size 0 i i k (Nat.le_refl _) (by omega) _ hR'.out.cells).mono ?_; rw [et2]; rintro e w' ⟨rfl, hw⟩; obtain rfl := hw.symm)
      go_ret2
      exact ⟨rfl, hB.out, hRf.out⟩

set_option maxRecDepth 100000 in
set_option maxHeartbeats 2000000 in
theorem add_row (g m c : Nat) (f : Nat → Int) (hm : 0 < m) (hmc : m ≤ c) (hm2 : m ≤ 1024) (hcc : c ≤ 140737488355328) (ht : top f m = m) (hf : ∀ i, i < m → 0 ≤ f i ∧ f i < 256) (w : World) (h : OwnRow w g m f) :
    Calls Tacg.prog 36 #[.slice (some ⟨g, 0, none⟩) m c, .slice none 0 0] w fun r w' => r = .returned (.slice (some ⟨w.heap.size, 0, none⟩) m m) ∧ Below w.heap.size w w' ∧ OwnRow w' w.heap.size m f := by
  have H := hide h
  have HF := hide hf
  have hlt := h.lt
  have et := trimR g f m ht hm
  have rm := make23s m (by omega)
  have t0 : ¬ (m : Int) < 0 := by omega
  clear h hf
  go_enter Tacg.func36, Tacg.ntmps36
  go_wp2_with (first | (go_at_call_of 70 (Value.slice none 0 0); refine (trim_nil _).mono ?_; rintro e w' ⟨rfl, hw⟩; obtain rfl := hw.symm) | (go_at_call_of 70 (Value.slice (some ⟨g, 0, none⟩) m c); refine (trim_any g 0 m c f hmc hcc _ H.out.cells).mono ?_; rw [et]; rintro e w' ⟨rfl, hw⟩; obtain rfl := hw.symm))
  go_loopw [6, 7, 8] (fun s6 s7 s8 w1 => ∃ (i : Nat) (k : Nat → Int), s6 = .int .u16 0 ∧ s7 = .int .i64 i ∧ i ≤ m ∧ Hid (∀ j, j < i → k j = f j) ∧ Hid (RowAt w1 w.heap.size (m + 1) k) ∧ Hid (Below w.heap.size w w1)) (fun _ s7 _ _ => m - (intOf s7).toNat)
  case atStart => exact ⟨0, fun _ => 0, rfl, rfl, Nat.zero_le _, fun j hj => absurd hj (by omega), RowAt.new w (m + 1) _, (Below.refl _ _).alloc (Nat.le_refl _) _⟩
  case round =>
    obtain ⟨i, k, rfl, rfl, hi, hk, hR, hB⟩ := hrel
    by_cases c : i < m
    · have hi' : (i : Int) < (m : Int) := by omega
      have hn' : ¬ (i : Int) < 0 := by omega
      have b1 : (i : Int) < (m : Int) + 1 := by omega
      have hx := (H.out.below hB.out hlt).cell i c
      have ho := hR.out.cell i (by omega)
      have hz := hR.out.frozen i
      have f0 := (HF.out i c).1
      have f1 := (HF.out i c).2
      have e1 : f i / 256 = 0 := by omega
      have e2 : f i % 256 = f i := by omega
      go_wp2
      go_roundw
      case rel =>
        refine ⟨i + 1, fun j => if j = i then f i else k j, rfl, by go_num, by omega, ?_, hR.out.set i (by omega) _, hB.out.setCell (Nat.le_refl _) _⟩
        intro j hj
        by_cases e : j = i
        · simp [e]
        · simp only [e, if_false]
          exact hk.out j (by omega)
      case measure => simp [intOf] <;> omega
    · obtain rfl : i = m := by omega
      have ho := hR.out.cell i (by omega)
      have hz := hR.out.frozen i
      have b1 : (i : Int) < (i : Int) + 1 := by omega
      have hR' := hide (hR.out.set i (by omega) 0)
      have hB' := hide (hB.out.setCell (p := ⟨w.heap.size, i, none⟩) (Nat.le_refl _) (.int .u8 0))
      have hK : ∀ j, j < i → (fun j => if j = i then (0 : Int) else k j) j = f j := by
        intro j hj
        have e : j ≠ i := by omega
        simp only [e, if_false]
        exact hk.out j hj
      have hkt : top (fun j => if j = i then (0 : Int) else k j) (i + 1) = i := by
        rw [top_zero (by simp), top_congr hK]
        exact ht
      have hOf := hide ((hR'.out.own.le (Nat.le_succ i)).congr hK)
      generalize (fun j => if j = i then (0 : Int) else k j) = K at *
      have et2 : trimV w.heap.size 0 K (i + 1) = .slice (some ⟨w.heap.size, 0, none⟩) i i := by unfold trimV; rw [hkt, if_neg (by omega)]
      clear hk hR hB hK
      go_wp2_with (go_at_call 70; refine (trim_any w.heap.size 0 (i + 1) (i + 1) K (Nat.le_refl _) (by omega) _ hR'.out.cells).mono ?_; rw [et2]; rintro e w' ⟨rfl, hw⟩; obtain rfl := hw.symm)
      go_ret
      exact ⟨rfl, hB'.out, hOf.out⟩

theorem addNil {x : Value} {g n : Nat} {f : Nat → Int} (hf : ∀ i, i < n → 0 ≤ f i ∧ f i < 256) (w : World) (h : NatO w x g n f) :
    Calls Tacg.prog 36 #[x, .slice none 0 0] w fun r w' => ∃ y, r = .returned y ∧ NatO w' y w.heap.size n f ∧ Below w.heap.size w w' := by
  rcases h with ⟨rfl, rfl⟩ | ⟨c, rfl, h2, h3, h4, h5, h6⟩
  · refine (add_nil w).mono ?_
    rintro r w' ⟨rfl, hB⟩
    exact ⟨_, rfl, .inl ⟨rfl, rfl⟩, hB⟩
  · refine (add_row g n c f h2 h3.1 h4 (by omega) h5 hf w h6).mono ?_
    rintro r w' ⟨rfl, hB, hO⟩
    exact ⟨_, rfl, .inr ⟨_, rfl, h2, ⟨Nat.le_refl _, by omega⟩, h4, h5, hO⟩, hB⟩
theorem subNil {x : Value} {g n : Nat} {f : Nat → Int} (hf : ∀ i, i < n → 0 ≤ f i ∧ f i < 256) (w : World) (h : NatO w x g n f) :
    Calls Tacg.prog 34 #[x, .slice none 0 0] w fun r w' => ∃ y, r = .returned (.tuple #[y, .bool true]) ∧ NatO w' y w.heap.size n f ∧ Below w.heap.size w w' := by
  rcases h with ⟨rfl, rfl⟩ | ⟨c, rfl, h2, h3, h4, h5, h6⟩
  · refine (sub_none w).mono ?_
    rintro r w' ⟨rfl, hB⟩
    exact ⟨_, rfl, .inl ⟨rfl, rfl⟩, hB⟩
  · refine (sub_row g n c f h2 h3.1 h4 (by omega) h5 hf w h6).mono ?_
    rintro r w' ⟨rfl, hB, hO⟩
    exact ⟨_, rfl, .inr ⟨_, rfl, h2, ⟨Nat.le_refl _, by omega⟩, h4, h5, hO.own⟩, hB⟩
end Go.Proofs.Ygctac
