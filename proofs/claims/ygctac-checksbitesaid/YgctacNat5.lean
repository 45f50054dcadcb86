/-
  School's and Karatsuba's product with nothing; digits; Take in general; law.emptyProducts.
-/
import Derived.Test.YgctacNat4
namespace Go.Proofs.Ygctac
open Go.RowKit
set_option linter.unusedVariables false
set_option linter.unusedSimpArgs false

set_option maxRecDepth 100000 in
set_option maxHeartbeats 1000000 in
theorem school_re (b o : Nat) (g m : Nat) (f : Nat → Int) (hm : 0 < m) (hc : m ≤ 1024) (ht : top f m = m) (w : World) (h : RowAt w g m f) :
    Calls Tacg.prog 18 #[.slice (some ⟨g, 0, none⟩) m m, .slice (some ⟨b, o, none⟩) 0 0] w fun r w' => r = .returned (.slice none 0 0) ∧ w' = w := by
  have H := hide h
  have et := trimR g f m ht hm
  have t1 : ¬ (m : Int) = 0 := by omega
  clear h
  go_enter Tacg.func18, Tacg.ntmps18
  go_wp2_with (first | (go_at_call_of 77 (Value.slice (some ⟨b, o, none⟩) 0 0); refine (strip_emp (.inr ⟨b, o, rfl⟩) _).mono ?_; rintro e w' ⟨rfl, hw⟩; obtain rfl := hw.symm) | (go_at_call_of 77 (Value.slice (some ⟨g, 0, none⟩) m m); refine (strip_any g 0 m m f (Nat.le_refl _) (by omega) _ H.out.cells).mono ?_; rw [et]; rintro e w' ⟨rfl, hw⟩; obtain rfl := hw.symm))
  go_ret
  exact ⟨rfl, rfl⟩

set_option maxRecDepth 100000 in
set_option maxHeartbeats 1000000 in
theorem school_er (b o : Nat) (g m : Nat) (f : Nat → Int) (hm : 0 < m) (hc : m ≤ 1024) (ht : top f m = m) (w : World) (h : RowAt w g m f) :
    Calls Tacg.prog 18 #[.slice (some ⟨b, o, none⟩) 0 0, .slice (some ⟨g, 0, none⟩) m m] w fun r w' => r = .returned (.slice none 0 0) ∧ w' = w := by
  have H := hide h
  have et := trimR g f m ht hm
  have t1 : ¬ (m : Int) = 0 := by omega
  clear h
  go_enter Tacg.func18, Tacg.ntmps18
  go_wp2_with (first | (go_at_call_of 77 (Value.slice (some ⟨b, o, none⟩) 0 0); refine (strip_emp (.inr ⟨b, o, rfl⟩) _).mono ?_; rintro e w' ⟨rfl, hw⟩; obtain rfl := hw.symm) | (go_at_call_of 77 (Value.slice (some ⟨g, 0, none⟩) m m); refine (strip_any g 0 m m f (Nat.le_refl _) (by omega) _ H.out.cells).mono ?_; rw [et]; rintro e w' ⟨rfl, hw⟩; obtain rfl := hw.symm))
  go_ret
  exact ⟨rfl, rfl⟩

set_option maxRecDepth 100000 in
set_option maxHeartbeats 1000000 in
theorem school_ne (b o : Nat) (w : World) :
    Calls Tacg.prog 18 #[.slice none 0 0, .slice (some ⟨b, o, none⟩) 0 0] w fun r w' => r = .returned (.slice none 0 0) ∧ w' = w := by
  go_enter Tacg.func18, Tacg.ntmps18
  go_wp2_with (first | (go_at_call_of 77 (Value.slice (some ⟨b, o, none⟩) 0 0); refine (strip_emp (.inr ⟨b, o, rfl⟩) _).mono ?_; rintro e w' ⟨rfl, hw⟩; obtain rfl := hw.symm) | (go_at_call_of 77 (Value.slice none 0 0); refine (strip_nil _).mono ?_; rintro e w' ⟨rfl, hw⟩; obtain rfl := hw.symm))
  go_ret
  exact ⟨rfl, rfl⟩

set_option maxRecDepth 100000 in
set_option maxHeartbeats 1000000 in
theorem school_en (b o : Nat) (w : World) :
    Calls Tacg.prog 18 #[.slice (some ⟨b, o, none⟩) 0 0, .slice none 0 0] w fun r w' => r = .returned (.slice none 0 0) ∧ w' = w := by
  go_enter Tacg.func18, Tacg.ntmps18
  go_wp2_with (first | (go_at_call_of 77 (Value.slice (some ⟨b, o, none⟩) 0 0); refine (strip_emp (.inr ⟨b, o, rfl⟩) _).mono ?_; rintro e w' ⟨rfl, hw⟩; obtain rfl := hw.symm) | (go_at_call_of 77 (Value.slice none 0 0); refine (strip_nil _).mono ?_; rintro e w' ⟨rfl, hw⟩; obtain rfl := hw.symm))
  go_ret
  exact ⟨rfl, rfl⟩

set_option maxRecDepth 100000 in
set_option maxHeartbeats 1000000 in
theorem school_rn (g m : Nat) (f : Nat → Int) (hm : 0 < m) (hc : m ≤ 1024) (ht : top f m = m) (w : World) (h : RowAt w g m f) :
    Calls Tacg.prog 18 #[.slice (some ⟨g, 0, none⟩) m m, .slice none 0 0] w fun r w' => r = .returned (.slice none 0 0) ∧ w' = w := by
  have H := hide h
  have et := trimR g f m ht hm
  have t1 : ¬ (m : Int) = 0 := by omega
  clear h
  go_enter Tacg.func18, Tacg.ntmps18
  go_wp2_with (first | (go_at_call_of 77 (Value.slice none 0 0); refine (strip_nil _).mono ?_; rintro e w' ⟨rfl, hw⟩; obtain rfl := hw.symm) | (go_at_call_of 77 (Value.slice (some ⟨g, 0, none⟩) m m); refine (strip_any g 0 m m f (Nat.le_refl _) (by omega) _ H.out.cells).mono ?_; rw [et]; rintro e w' ⟨rfl, hw⟩; obtain rfl := hw.symm))
  go_ret
  exact ⟨rfl, rfl⟩

set_option maxRecDepth 100000 in
set_option maxHeartbeats 1000000 in
theorem school_nr (g m : Nat) (f : Nat → Int) (hm : 0 < m) (hc : m ≤ 1024) (ht : top f m = m) (w : World) (h : RowAt w g m f) :
    Calls Tacg.prog 18 #[.slice none 0 0, .slice (some ⟨g, 0, none⟩) m m] w fun r w' => r = .returned (.slice none 0 0) ∧ w' = w := by
  have H := hide h
  have et := trimR g f m ht hm
  have t1 : ¬ (m : Int) = 0 := by omega
  clear h
  go_enter Tacg.func18, Tacg.ntmps18
  go_wp2_with (first | (go_at_call_of 77 (Value.slice none 0 0); refine (strip_nil _).mono ?_; rintro e w' ⟨rfl, hw⟩; obtain rfl := hw.symm) | (go_at_call_of 77 (Value.slice (some ⟨g, 0, none⟩) m m); refine (strip_any g 0 m m f (Nat.le_refl _) (by omega) _ H.out.cells).mono ?_; rw [et]; rintro e w' ⟨rfl, hw⟩; obtain rfl := hw.symm))
  go_ret
  exact ⟨rfl, rfl⟩

set_option maxRecDepth 100000 in
set_option maxHeartbeats 1000000 in
theorem school_nn (w : World) :
    Calls Tacg.prog 18 #[.slice none 0 0, .slice none 0 0] w fun r w' => r = .returned (.slice none 0 0) ∧ w' = w := by
  go_enter Tacg.func18, Tacg.ntmps18
  go_wp2_with (first | (go_at_call_of 77 (Value.slice none 0 0); refine (strip_nil _).mono ?_; rintro e w' ⟨rfl, hw⟩; obtain rfl := hw.symm))
  go_ret
  exact ⟨rfl, rfl⟩

set_option maxRecDepth 100000 in
set_option maxHeartbeats 1000000 in
theorem kara_re (b o : Nat) (g m : Nat) (f : Nat → Int) (hm : 0 < m) (hc : m ≤ 1024) (ht : top f m = m) (w : World) (h : RowAt w g m f) :
    Calls Tacg.prog 17 #[.slice (some ⟨g, 0, none⟩) m m, .slice (some ⟨b, o, none⟩) 0 0, .int .u8 8] w fun r w' => r = .returned (.slice none 0 0) ∧ w' = w := by
  have H := hide h
  have et := trimR g f m ht hm
  have t1 : ¬ (m : Int) = 0 := by omega
  clear h
  by_cases h8 : m < 8
  · have t8 : (m : Int) < 8 := by omega
    go_enter Tacg.func17, Tacg.ntmps17
    go_wp2_with (first | (go_at_call_of 73 (Value.slice (some ⟨b, o, none⟩) 0 0); refine (normal_emp (.inr ⟨b, o, rfl⟩) _).mono ?_; rintro e w' ⟨rfl, hw⟩; obtain rfl := hw.symm) | (go_at_call_of 73 (Value.slice (some ⟨g, 0, none⟩) m m); refine (normal_any g 0 m m f (Nat.le_refl _) (by omega) _ H.out.cells).mono ?_; rw [et]; rintro e w' ⟨rfl, hw⟩; obtain rfl := hw.symm) | (go_at_call 18; refine (school_rn g m f hm hc ht _ H.out).mono ?_; rintro e w' ⟨rfl, hw⟩; obtain rfl := hw.symm))
    go_ret
    exact ⟨rfl, rfl⟩
  · have t8 : ¬ (m : Int) < 8 := by omega
    go_enter Tacg.func17, Tacg.ntmps17
    go_wp2_with (first | (go_at_call_of 73 (Value.slice (some ⟨b, o, none⟩) 0 0); refine (normal_emp (.inr ⟨b, o, rfl⟩) _).mono ?_; rintro e w' ⟨rfl, hw⟩; obtain rfl := hw.symm) | (go_at_call_of 73 (Value.slice (some ⟨g, 0, none⟩) m m); refine (normal_any g 0 m m f (Nat.le_refl _) (by omega) _ H.out.cells).mono ?_; rw [et]; rintro e w' ⟨rfl, hw⟩; obtain rfl := hw.symm) | (go_at_call 18; refine (school_rn g m f hm hc ht _ H.out).mono ?_; rintro e w' ⟨rfl, hw⟩; obtain rfl := hw.symm))
    go_ret
    exact ⟨rfl, rfl⟩

set_option maxRecDepth 100000 in
set_option maxHeartbeats 1000000 in
theorem kara_er (b o : Nat) (g m : Nat) (f : Nat → Int) (hm : 0 < m) (hc : m ≤ 1024) (ht : top f m = m) (w : World) (h : RowAt w g m f) :
    Calls Tacg.prog 17 #[.slice (some ⟨b, o, none⟩) 0 0, .slice (some ⟨g, 0, none⟩) m m, .int .u8 8] w fun r w' => r = .returned (.slice none 0 0) ∧ w' = w := by
  have H := hide h
  have et := trimR g f m ht hm
  have t1 : ¬ (m : Int) = 0 := by omega
  clear h
  by_cases h8 : m < 8
  · have t8 : (m : Int) < 8 := by omega
    go_enter Tacg.func17, Tacg.ntmps17
    go_wp2_with (first | (go_at_call_of 73 (Value.slice (some ⟨b, o, none⟩) 0 0); refine (normal_emp (.inr ⟨b, o, rfl⟩) _).mono ?_; rintro e w' ⟨rfl, hw⟩; obtain rfl := hw.symm) | (go_at_call_of 73 (Value.slice (some ⟨g, 0, none⟩) m m); refine (normal_any g 0 m m f (Nat.le_refl _) (by omega) _ H.out.cells).mono ?_; rw [et]; rintro e w' ⟨rfl, hw⟩; obtain rfl := hw.symm) | (go_at_call 18; refine (school_nr g m f hm hc ht _ H.out).mono ?_; rintro e w' ⟨rfl, hw⟩; obtain rfl := hw.symm))
    go_ret
    exact ⟨rfl, rfl⟩
  · have t8 : ¬ (m : Int) < 8 := by omega
    go_enter Tacg.func17, Tacg.ntmps17
    go_wp2_with (first | (go_at_call_of 73 (Value.slice (some ⟨b, o, none⟩) 0 0); refine (normal_emp (.inr ⟨b, o, rfl⟩) _).mono ?_; rintro e w' ⟨rfl, hw⟩; obtain rfl := hw.symm) | (go_at_call_of 73 (Value.slice (some ⟨g, 0, none⟩) m m); refine (normal_any g 0 m m f (Nat.le_refl _) (by omega) _ H.out.cells).mono ?_; rw [et]; rintro e w' ⟨rfl, hw⟩; obtain rfl := hw.symm) | (go_at_call 18; refine (school_nr g m f hm hc ht _ H.out).mono ?_; rintro e w' ⟨rfl, hw⟩; obtain rfl := hw.symm))
    go_ret
    exact ⟨rfl, rfl⟩

set_option maxRecDepth 100000 in
set_option maxHeartbeats 1000000 in
theorem kara_ne (b o : Nat) (w : World) :
    Calls Tacg.prog 17 #[.slice none 0 0, .slice (some ⟨b, o, none⟩) 0 0, .int .u8 8] w fun r w' => r = .returned (.slice none 0 0) ∧ w' = w := by
  go_enter Tacg.func17, Tacg.ntmps17
  go_wp2_with (first | (go_at_call_of 73 (Value.slice (some ⟨b, o, none⟩) 0 0); refine (normal_emp (.inr ⟨b, o, rfl⟩) _).mono ?_; rintro e w' ⟨rfl, hw⟩; obtain rfl := hw.symm) | (go_at_call_of 73 (Value.slice none 0 0); refine (normal_nil _).mono ?_; rintro e w' ⟨rfl, hw⟩; obtain rfl := hw.symm) | (go_at_call 18; refine (school_nn _).mono ?_; rintro e w' ⟨rfl, hw⟩; obtain rfl := hw.symm))
  go_ret
  exact ⟨rfl, rfl⟩

set_option maxRecDepth 100000 in
set_option maxHeartbeats 1000000 in
theorem kara_en (b o : Nat) (w : World) :
    Calls Tacg.prog 17 #[.slice (some ⟨b, o, none⟩) 0 0, .slice none 0 0, .int .u8 8] w fun r w' => r = .returned (.slice none 0 0) ∧ w' = w := by
  go_enter Tacg.func17, Tacg.ntmps17
  go_wp2_with (first | (go_at_call_of 73 (Value.slice (some ⟨b, o, none⟩) 0 0); refine (normal_emp (.inr ⟨b, o, rfl⟩) _).mono ?_; rintro e w' ⟨rfl, hw⟩; obtain rfl := hw.symm) | (go_at_call_of 73 (Value.slice none 0 0); refine (normal_nil _).mono ?_; rintro e w' ⟨rfl, hw⟩; obtain rfl := hw.symm) | (go_at_call 18; refine (school_nn _).mono ?_; rintro e w' ⟨rfl, hw⟩; obtain rfl := hw.symm))
  go_ret
  exact ⟨rfl, rfl⟩

theorem digits_some (b o n c : Nat) (hn : n ≤ c) (w : World) :
    Calls Tacg.prog 15 #[.slice (some ⟨b, o, none⟩) n c, .int .i64 512] w fun r w' => r = .returned (.slice (some ⟨b, o, none⟩) (min n 512) (if n ≤ 512 then c else 512)) ∧ w' = w := by
  by_cases h : n ≤ 512
  · have t1 : ¬ (512 : Int) < (n : Int) := by omega
    have e : min n 512 = n := by omega
    go_enter Tacg.func15, Tacg.ntmps15
    go_wp2
    go_ret
    exact ⟨rfl, rfl⟩
  · have t1 : (512 : Int) < (n : Int) := by omega
    have t2 : (512 : Int) ≤ (c : Int) := by omega
    have e : min n 512 = 512 := by omega
    go_enter Tacg.func15, Tacg.ntmps15
    go_wp2
    go_ret
    exact ⟨rfl, rfl⟩
theorem digits_nil (w : World) : Calls Tacg.prog 15 #[.slice none 0 0, .int .i64 512] w fun r w' => r = .returned (.slice none 0 0) ∧ w' = w := by
  go_enter Tacg.func15, Tacg.ntmps15
  go_wp2
  go_ret
  exact ⟨rfl, rfl⟩

theorem trim_e0 (ad : Addr) (w : World) : Calls Tacg.prog 70 #[.slice (some ad) 0 0] w fun r w' => r = .returned (.slice none 0 0) ∧ w' = w := by
  go_enter Tacg.func70, Tacg.ntmps70
  go_wp2_with fail
  go_loopw [3] (fun s3 w1 => s3 = .int .i64 0 ∧ w1 = w) (fun s3 _ => (intOf s3).toNat)
  case atStart => exact ⟨rfl, rfl⟩
  case round =>
    obtain ⟨rfl, hw⟩ := hrel
    obtain rfl := hw.symm
    go_wp2
    go_ret
    exact ⟨rfl, rfl⟩
set_option maxRecDepth 100000 in
theorem take_e0 (ad : Addr) (w : World) : Calls Tacg.prog 14 #[.slice (some ad) 0 0] w fun r w' => r = .returned (.slice none 0 0) ∧ w' = w := by
  go_enter Tacg.func14, Tacg.ntmps14
  go_wp2_with (go_at_call 70; refine (trim_e0 _ _).mono ?_; rintro e w' ⟨rfl, hw⟩; obtain rfl := hw.symm)
  go_ret
  exact ⟨rfl, rfl⟩
theorem digits_e0 (ad : Addr) (w : World) : Calls Tacg.prog 15 #[.slice (some ad) 0 0, .int .i64 512] w fun r w' => r = .returned (.slice (some ad) 0 0) ∧ w' = w := by
  go_enter Tacg.func15, Tacg.ntmps15
  go_wp2
  go_ret
  exact ⟨rfl, rfl⟩

/-- A slice of digits that can be read. -/
def InAt (w : World) (v : Value) (n : Nat) : Prop := ((∃ p, v = .slice p 0 0) ∧ n = 0) ∨ ∃ b o c f, v = .slice (some ⟨b, o, none⟩) n c ∧ n ≤ c ∧ c ≤ 140737488355328 ∧ (∀ i, i < n → 0 ≤ f i ∧ f i < 256) ∧ Cells w b o n f
/-- A number of at most L digits. -/
def NatL (L : Nat) (w : World) (v : Value) : Prop := v = .slice none 0 0 ∨ ∃ g m f, v = .slice (some ⟨g, 0, none⟩) m m ∧ 0 < m ∧ m ≤ L ∧ m ≤ 1024 ∧ top f m = m ∧ (∀ i, i < m → 0 ≤ f i ∧ f i < 256) ∧ RowAt w g m f
theorem NatL.at {L : Nat} {w : World} {v : Value} (h : NatL L w v) : NatAt w v := by
  rcases h with h | ⟨g, m, f, h1, h2, h3, h4, h5, h6, h7⟩
  · exact .inl h
  · exact .inr ⟨g, m, f, h1, h2, h4, h5, h6, h7⟩
theorem NatL.below {L : Nat} {w w' : World} {v : Value} (h : NatL L w v) (hb : Below w.heap.size w w') : NatL L w' v := by
  rcases h with h | ⟨g, m, f, h1, h2, h3, h4, h5, h6, h7⟩
  · exact .inl h
  · exact .inr ⟨g, m, f, h1, h2, h3, h4, h5, h6, h7.below hb h7.lt⟩
theorem NatAt.inp {w : World} {v : Value} (h : NatAt w v) : ∃ n, n ≤ 1024 ∧ InAt w v n := by
  rcases h with h | ⟨g, m, f, h1, h2, h4, h5, h6, h7⟩
  · exact ⟨0, by omega, .inl ⟨⟨none, h⟩, rfl⟩⟩
  · exact ⟨m, h4, .inr ⟨g, 0, m, f, h1, Nat.le_refl _, by omega, h6, h7.cells⟩⟩
theorem InAt.below {w w' : World} {v : Value} {n : Nat} (h : InAt w v n) (hb : Below w.heap.size w w') : InAt w' v n := by
  rcases h with h | ⟨b, o, c, f, h1, h2, h3, h4, h5⟩
  · exact .inl h
  · refine .inr ⟨b, o, c, f, h1, h2, h3, h4, fun i hi => ?_⟩
    have hc := h5 i hi
    rw [hb.cell (World.block_lt_of_cell? w _ hc), hc]

theorem take_any {v : Value} {n : Nat} (w : World) (h : InAt w v n) :
    Calls Tacg.prog 14 #[v] w fun r w' => ∃ x, r = .returned x ∧ NatL n w' x ∧ Below w.heap.size w w' := by
  rcases h with ⟨⟨p, rfl⟩, rfl⟩ | ⟨b, o, c, f, rfl, h2, h3, h4, h5⟩
  · cases p with
    | none =>
      refine (take_nil w).mono ?_
      rintro r w' ⟨rfl, rfl⟩
      exact ⟨_, rfl, .inl rfl, Below.refl _ _⟩
    | some ad =>
      refine (take_e0 ad w).mono ?_
      rintro r w' ⟨rfl, rfl⟩
      exact ⟨_, rfl, .inl rfl, Below.refl _ _⟩
  · rcases Nat.eq_zero_or_pos (top f (min n 1024)) with hz | hz
    · refine (take_zero b o n c f h2 h3 w h5 hz).mono ?_
      rintro r w' ⟨rfl, rfl⟩
      exact ⟨_, rfl, .inl rfl, Below.refl _ _⟩
    · refine (take_some b o n c f h2 h3 w h5 _ rfl hz).mono ?_
      rintro r w' ⟨rfl, hB, hR⟩
      have hl := top_le f (min n 1024)
      exact ⟨_, rfl, .inr ⟨w.heap.size, _, f, rfl, hz, by omega, by omega, top_top _ _, fun i hi => h4 i (by omega), hR⟩, hB⟩
theorem digits_any {v : Value} {n : Nat} (w : World) (h : InAt w v n) :
    Calls Tacg.prog 15 #[v, .int .i64 512] w fun r w' => ∃ x, r = .returned x ∧ InAt w x (min n 512) ∧ w' = w := by
  rcases h with ⟨⟨p, rfl⟩, rfl⟩ | ⟨b, o, c, f, rfl, h2, h3, h4, h5⟩
  · cases p with
    | none =>
      refine (digits_nil w).mono ?_
      rintro r w' ⟨rfl, rfl⟩
      exact ⟨_, rfl, .inl ⟨⟨none, rfl⟩, rfl⟩, rfl⟩
    | some ad =>
      refine (digits_e0 ad w).mono ?_
      rintro r w' ⟨rfl, rfl⟩
      exact ⟨_, rfl, .inl ⟨⟨some ad, rfl⟩, rfl⟩, rfl⟩
  · refine (digits_some b o n c h2 w).mono ?_
    rintro r w' ⟨rfl, rfl⟩
    refine ⟨_, rfl, .inr ⟨b, o, _, f, rfl, ?_, ?_, fun i hi => h4 i (by omega), fun i hi => h5 i (by omega)⟩, rfl⟩
    · split <;> omega
    · split <;> omega
end Go.Proofs.Ygctac
