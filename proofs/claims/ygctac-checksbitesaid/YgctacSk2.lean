/-
  nat.Add, nat.Sub, nat.Cmp of any two normal numbers: what form the answers have.
-/
import Derived.Test.YgctacSk1
namespace Go.Proofs.Ygctac
open Go.RowKit
set_option linter.unusedVariables false
set_option linter.unusedSimpArgs false

/-- Where a normal number's n digits lie. -/
def Sl (w : World) (p : Option Addr) (n : Nat) : Prop := (p = none ∧ n = 0) ∨ ∃ b o f, p = some ⟨b, o, none⟩ ∧ 0 < n ∧ top f n = n ∧ Dg f n ∧ Cells w b o n f
theorem Nm.form {w : World} {v : Value} {L : Nat} (h : Nm w v L) : ∃ p n, v = .slice p n n ∧ n ≤ L ∧ n ≤ 140737488355328 ∧ Sl w p n := by
  rcases h with rfl | ⟨b, o, m, f, rfl, h2, h3, h4, h5, h6, h7⟩
  · exact ⟨none, 0, rfl, by omega, by omega, .inl ⟨rfl, rfl⟩⟩
  · exact ⟨_, m, rfl, h3, h4, .inr ⟨b, o, f, rfl, h2, h5, h6, h7⟩⟩
theorem Sl.nm {w : World} {p : Option Addr} {n : Nat} (hn : n ≤ 140737488355328) (h : Sl w p n) : Nm w (.slice p n n) n := by
  rcases h with ⟨rfl, rfl⟩ | ⟨b, o, f, rfl, h2, h3, h4, h5⟩
  · exact .inl rfl
  · exact .inr ⟨b, o, n, f, rfl, h2, Nat.le_refl _, hn, h3, h4, h5⟩
theorem Sl.below {w w' : World} {p : Option Addr} {n : Nat} (h : Sl w p n) (hb : Below w.heap.size w w') : Sl w' p n := by
  rcases h with h | ⟨b, o, f, h1, h2, h3, h4, h5⟩
  · exact .inl h
  · exact .inr ⟨b, o, f, h1, h2, h3, h4, cells_below h5 hb⟩
theorem Sl.cell {w : World} {p : Option Addr} {n : Nat} (h : Sl w p n) {i : Nat} (hi : i < n) : ∃ b o z, p = some ⟨b, o, none⟩ ∧ 0 ≤ z ∧ z < 256 ∧ w.cell? ⟨b, o + i, none⟩ = some (.int .u8 z) := by
  rcases h with ⟨_, h⟩ | ⟨b, o, f, h1, h2, h3, h4, h5⟩
  · omega
  · exact ⟨b, o, f i, h1, (h4 i hi).1, (h4 i hi).2, h5 i hi⟩
theorem trim_sl {w : World} {p : Option Addr} {n : Nat} (hn : n ≤ 140737488355328) (h : Sl w p n) : Calls Tacg.prog 70 #[.slice p n n] w fun r w' => r = .returned (.slice p n n) ∧ w' = w := by
  rcases h with ⟨rfl, rfl⟩ | ⟨b, o, f, rfl, h2, h3, h4, h5⟩
  · exact trim_nil w
  · have := trim_any b o n n f (Nat.le_refl _) hn w h5
    have e : trimV b o f n = .slice (some ⟨b, o, none⟩) n n := by unfold trimV; rw [h3, if_neg (by omega)]
    rwa [e] at this
theorem normal_sl {w : World} {p : Option Addr} {n : Nat} (hn : n ≤ 140737488355328) (h : Sl w p n) : Calls Tacg.prog 73 #[.slice p n n] w fun r w' => r = .returned (.slice p n n) ∧ w' = w := by
  rcases h with ⟨rfl, rfl⟩ | ⟨b, o, f, rfl, h2, h3, h4, h5⟩
  · exact normal_nil w
  · have := normal_any b o n n f (Nat.le_refl _) hn w h5
    have e : trimV b o f n = .slice (some ⟨b, o, none⟩) n n := by unfold trimV; rw [h3, if_neg (by omega)]
    rwa [e] at this

set_option maxRecDepth 100000 in
set_option maxHeartbeats 4000000 in
theorem add_ge (p q : Option Addr) (n m : Nat) (hn : n < 140737488355328) (hm : m < 140737488355328) (hlt : m ≤ n) (w : World) (h : Sl w p n) (h' : Sl w q m) :
    Calls Tacg.prog 36 #[.slice p n n, .slice q m m] w fun r w' => ∃ x, r = .returned x ∧ NatB w' x w.heap.size (n + 1) ∧ Below w.heap.size w w' := by
  have HU := hide (trim_sl (by omega) h)
  have HV := hide (trim_sl (by omega) h')
  have H := hide h
  have H' := hide h'
  have rm := make23s n (by omega)
  have t0 : ¬ (n : Int) < (m : Int) := by omega
  clear h h'
  go_enter Tacg.func36, Tacg.ntmps36
  go_wp2_with fail
  refine HU.out.mono ?_
  rintro e w' ⟨rfl, hw⟩; obtain rfl := hw.symm
  go_wp2_with fail
  refine HV.out.mono ?_
  rintro e w' ⟨rfl, hw⟩; obtain rfl := hw.symm
  clear HU HV hw
  go_wp2_with fail
  go_loopw [6, 7, 8] (fun s6 s7 s8 w1 => ∃ (c : Int) (i : Nat) (k : Nat → Int) (W : World), s6 = .int .u16 c ∧ s7 = .int .i64 i ∧ i ≤ n ∧ w1 = W ∧ Hid (Dg k (n + 1)) ∧ Hid (RowAt W w.heap.size (n + 1) k) ∧ Hid (Below w.heap.size w W)) (fun _ s7 _ _ => n - (intOf s7).toNat)
  case atStart => exact ⟨0, 0, _, _, rfl, rfl, by omega, rfl, hide (Dg.zero _), RowAt.new w (n + 1) _, (Below.refl _ _).alloc (Nat.le_refl _) _⟩
  case round =>
    obtain ⟨c, i, k, W, rfl, rfl, hi, hw, hK, hR, hB⟩ := hrel
    obtain rfl := hw.symm
    clear hw rm
    by_cases ci : i < n
    · have ci' : (i : Int) < (n : Int) := by omega
      have ci2 : (i : Int) < (n : Int) + 1 := by omega
      have hco := hR.out.cell i (by omega)
      have hfo := hR.out.frozen i
      obtain ⟨b, o, z, rfl, z0, z1, hz⟩ := (H.out.below hB.out).cell ci
      by_cases cj : i < m
      · have cj' : (i : Int) < (m : Int) := by omega
        obtain ⟨b', o', z', rfl, z0', z1', hz'⟩ := (H'.out.below hB.out).cell cj
        go_wp2_with fail
        go_roundw
        case rel => exact ⟨_, i + 1, _, _, rfl, by go_num, by omega, rfl, hide (hK.out.put i (Int.emod_nonneg _ (by decide)) (Int.emod_lt_of_pos _ (by decide))), hide (hR.out.set i (by omega) _), hide (hB.out.setCell (p := ⟨w.heap.size, i, none⟩) (Nat.le_refl _) _)⟩
        case measure => simp [intOf] <;> omega
      · have cj' : ¬ (i : Int) < (m : Int) := by omega
        go_wp2_with fail
        go_roundw
        case rel => exact ⟨_, i + 1, _, _, rfl, by go_num, by omega, rfl, hide (hK.out.put i (Int.emod_nonneg _ (by decide)) (Int.emod_lt_of_pos _ (by decide))), hide (hR.out.set i (by omega) _), hide (hB.out.setCell (p := ⟨w.heap.size, i, none⟩) (Nat.le_refl _) _)⟩
        case measure => simp [intOf] <;> omega
    · obtain rfl : i = n := by omega
      have hco := hR.out.cell i (by omega)
      have hfo := hR.out.frozen i
      have b1 : (i : Int) < (i : Int) + 1 := by omega
      have hK2 := hide (hK.out.put i (Int.emod_nonneg c (b := 256) (by decide)) (Int.emod_lt_of_pos c (by decide)))
      have hR2 := hide (hR.out.set i (by omega) (c % 256))
      have hB2 := hide (hB.out.setCell (p := ⟨w.heap.size, i, none⟩) (Nat.le_refl _) (.int .u8 (c % 256)))
      clear hK hR hB
      generalize (fun j => if j = i then c % 256 else k j) = K at *
      go_wp2_with fail
      refine (trim_any w.heap.size 0 (i + 1) (i + 1) K (Nat.le_refl _) (by omega) _ hR2.out.cells).mono ?_
      rintro e w' ⟨rfl, hw⟩; obtain rfl := hw.symm
      go_wp2_with fail
      go_ret
      exact ⟨_, rfl, natB_trimV (by omega) (Nat.le_refl _) hK2.out hR2.out.own, hB2.out⟩

set_option maxRecDepth 100000 in
set_option maxHeartbeats 4000000 in
theorem add_lt (p q : Option Addr) (n m : Nat) (hn : n < 140737488355328) (hm : m < 140737488355328) (hlt : n < m) (w : World) (h : Sl w p n) (h' : Sl w q m) :
    Calls Tacg.prog 36 #[.slice p n n, .slice q m m] w fun r w' => ∃ x, r = .returned x ∧ NatB w' x w.heap.size (m + 1) ∧ Below w.heap.size w w' := by
  have HU := hide (trim_sl (by omega) h)
  have HV := hide (trim_sl (by omega) h')
  have H := hide h
  have H' := hide h'
  have rm := make23s m (by omega)
  have t0 : (n : Int) < (m : Int) := by omega
  clear h h'
  go_enter Tacg.func36, Tacg.ntmps36
  go_wp2_with fail
  refine HU.out.mono ?_
  rintro e w' ⟨rfl, hw⟩; obtain rfl := hw.symm
  go_wp2_with fail
  refine HV.out.mono ?_
  rintro e w' ⟨rfl, hw⟩; obtain rfl := hw.symm
  clear HU HV hw
  go_wp2_with fail
  go_loopw [6, 7, 8] (fun s6 s7 s8 w1 => ∃ (c : Int) (i : Nat) (k : Nat → Int) (W : World), s6 = .int .u16 c ∧ s7 = .int .i64 i ∧ i ≤ m ∧ w1 = W ∧ Hid (Dg k (m + 1)) ∧ Hid (RowAt W w.heap.size (m + 1) k) ∧ Hid (Below w.heap.size w W)) (fun _ s7 _ _ => m - (intOf s7).toNat)
  case atStart => exact ⟨0, 0, _, _, rfl, rfl, by omega, rfl, hide (Dg.zero _), RowAt.new w (m + 1) _, (Below.refl _ _).alloc (Nat.le_refl _) _⟩
  case round =>
    obtain ⟨c, i, k, W, rfl, rfl, hi, hw, hK, hR, hB⟩ := hrel
    obtain rfl := hw.symm
    clear hw rm
    by_cases ci : i < m
    · have ci' : (i : Int) < (m : Int) := by omega
      have ci2 : (i : Int) < (m : Int) + 1 := by omega
      have hco := hR.out.cell i (by omega)
      have hfo := hR.out.frozen i
      obtain ⟨b, o, z, rfl, z0, z1, hz⟩ := (H'.out.below hB.out).cell ci
      by_cases cj : i < n
      · have cj' : (i : Int) < (n : Int) := by omega
        obtain ⟨b', o', z', rfl, z0', z1', hz'⟩ := (H.out.below hB.out).cell cj
        go_wp2_with fail
        go_roundw
        case rel => exact ⟨_, i + 1, _, _, rfl, by go_num, by omega, rfl, hide (hK.out.put i (Int.emod_nonneg _ (by decide)) (Int.emod_lt_of_pos _ (by decide))), hide (hR.out.set i (by omega) _), hide (hB.out.setCell (p := ⟨w.heap.size, i, none⟩) (Nat.le_refl _) _)⟩
        case measure => simp [intOf] <;> omega
      · have cj' : ¬ (i : Int) < (n : Int) := by omega
        go_wp2_with fail
        go_roundw
        case rel => exact ⟨_, i + 1, _, _, rfl, by go_num, by omega, rfl, hide (hK.out.put i (Int.emod_nonneg _ (by decide)) (Int.emod_lt_of_pos _ (by decide))), hide (hR.out.set i (by omega) _), hide (hB.out.setCell (p := ⟨w.heap.size, i, none⟩) (Nat.le_refl _) _)⟩
        case measure => simp [intOf] <;> omega
    · obtain rfl : i = m := by omega
      have hco := hR.out.cell i (by omega)
      have hfo := hR.out.frozen i
      have b1 : (i : Int) < (i : Int) + 1 := by omega
      have hK2 := hide (hK.out.put i (Int.emod_nonneg c (b := 256) (by decide)) (Int.emod_lt_of_pos c (by decide)))
      have hR2 := hide (hR.out.set i (by omega) (c % 256))
      have hB2 := hide (hB.out.setCell (p := ⟨w.heap.size, i, none⟩) (Nat.le_refl _) (.int .u8 (c % 256)))
      clear hK hR hB
      generalize (fun j => if j = i then c % 256 else k j) = K at *
      go_wp2_with fail
      refine (trim_any w.heap.size 0 (i + 1) (i + 1) K (Nat.le_refl _) (by omega) _ hR2.out.cells).mono ?_
      rintro e w' ⟨rfl, hw⟩; obtain rfl := hw.symm
      go_wp2_with fail
      go_ret
      exact ⟨_, rfl, natB_trimV (by omega) (Nat.le_refl _) hK2.out hR2.out.own, hB2.out⟩

theorem add_nm {u v : Value} {n m : Nat} (hn : n < 140737488355328) (hm : m < 140737488355328) (w : World) (hu : Nm w u n) (hv : Nm w v m) :
    Calls Tacg.prog 36 #[u, v] w fun r w' => ∃ x, r = .returned x ∧ NatB w' x w.heap.size (max n m + 1) ∧ Below w.heap.size w w' := by
  obtain ⟨p, n1, rfl, a1, a2, a3⟩ := hu.form
  obtain ⟨q, m1, rfl, b1, b2, b3⟩ := hv.form
  by_cases c : n1 < m1
  · exact (add_lt p q n1 m1 (by omega) (by omega) c w a3 b3).mono (by rintro r w' ⟨x, rfl, hx, hB⟩; exact ⟨x, rfl, hx.mono (Nat.le_refl _) (by omega), hB⟩)
  · exact (add_ge p q n1 m1 (by omega) (by omega) (by omega) w a3 b3).mono (by rintro r w' ⟨x, rfl, hx, hB⟩; exact ⟨x, rfl, hx.mono (Nat.le_refl _) (by omega), hB⟩)

set_option maxRecDepth 100000 in
set_option maxHeartbeats 4000000 in
theorem cmp_sl (p q : Option Addr) (n m : Nat) (hn : n ≤ 140737488355328) (hm : m ≤ 140737488355328) (w : World) (h : Sl w p n) (h' : Sl w q m) :
    Calls Tacg.prog 85 #[.slice p n n, .slice q m m] w fun r w' => ∃ z, r = .returned (.int .i8 z) ∧ -1 ≤ z ∧ z ≤ 1 ∧ ∃ d, w' = w.drewN d := by
  have HU := hide (trim_sl hn h)
  have HV := hide (trim_sl hm h')
  have H := hide h
  have H' := hide h'
  clear h h'
  by_cases c1 : n = m
  · subst c1
    go_enter Tacg.func85, Tacg.ntmps85
    go_wp2_with fail
    refine HU.out.mono ?_
    rintro e w' ⟨rfl, hw⟩; obtain rfl := hw.symm
    go_wp2_with fail
    refine HV.out.mono ?_
    rintro e w' ⟨rfl, hw⟩; obtain rfl := hw.symm
    clear HU HV hw
    go_wp2_with fail
    go_loopw [5] (fun s5 w0 => ∃ (z : Int) (W : World) (d : Nat), s5 = .int .i64 z ∧ -1 ≤ z ∧ z < n ∧ w0 = W ∧ Hid (W = w.drewN d)) (fun s5 _ => (intOf s5 + 1).toNat)
    case atStart => exact ⟨(n : Int) - 1, w, 0, by go_num, by omega, by omega, rfl, hide rfl⟩
    case round =>
      obtain ⟨z, W, d, rfl, z0, z1, hw, hW⟩ := hrel
      obtain rfl := hw.symm
      clear hw
      by_cases hz : 0 ≤ z
      · obtain ⟨i, rfl⟩ := Int.eq_ofNat_of_zero_le hz
        have hi : i < n := by omega
        have hi' : (i : Int) < (n : Int) := by omega
        obtain ⟨b, o, x, rfl, x0, x1, hx⟩ := H.out.cell hi
        obtain ⟨b', o', y, rfl, y0, y1, hy⟩ := H'.out.cell hi
        have hx2 : W.cell? ⟨b, o + i, none⟩ = some (.int .u8 x) := by rw [hW.out]; exact hx
        have hy2 : W.cell? ⟨b', o' + i, none⟩ = some (.int .u8 y) := by rw [hW.out]; exact hy
        clear hx hy
        by_cases l1 : x < y
        · go_wp2_with fail
          go_quiet (fail)
          go_wp2_with fail
          go_ret
          exact ⟨-1, rfl, by omega, by omega, _, by rw [hW.out]; exact World.drewN_drewN _ _ _⟩
        · by_cases l2 : y < x
          · go_wp2_with fail
            go_quiet (fail)
            go_wp2_with fail
            go_quiet (fail)
            go_wp2_with fail
            go_ret
            refine ⟨1, rfl, by omega, by omega, ?_⟩
            rw [hW.out]
            exact ⟨_, by rw [World.drewN_drewN, World.drewN_drewN]⟩
          · go_wp2_with fail
            go_quiet (fail)
            go_wp2_with fail
            go_quiet (fail)
            go_wp2_with fail
            go_roundw
            case rel => exact ⟨(i : Int) - 1, _, _, by go_num, by omega, by omega, rfl, hide (by rw [hW.out]; first | exact World.drewN_drewN _ _ _ | rw [World.drewN_drewN])⟩
            case measure => simp [intOf] <;> omega
      · obtain rfl : z = -1 := by omega
        go_wp2
        go_ret
        exact ⟨0, rfl, by omega, by omega, d, hW.out⟩
  · have c1' : ¬ (n : Int) = (m : Int) := by omega
    by_cases c2 : n < m
    · have c2' : (n : Int) < (m : Int) := by omega
      go_enter Tacg.func85, Tacg.ntmps85
      go_wp2_with fail
      refine HU.out.mono ?_
      rintro e w' ⟨rfl, hw⟩; obtain rfl := hw.symm
      go_wp2_with fail
      refine HV.out.mono ?_
      rintro e w' ⟨rfl, hw⟩; obtain rfl := hw.symm
      clear HU HV hw
      go_wp2_with fail
      go_ret
      exact ⟨-1, rfl, by omega, by omega, 0, rfl⟩
    · have c2' : ¬ (n : Int) < (m : Int) := by omega
      go_enter Tacg.func85, Tacg.ntmps85
      go_wp2_with fail
      refine HU.out.mono ?_
      rintro e w' ⟨rfl, hw⟩; obtain rfl := hw.symm
      go_wp2_with fail
      refine HV.out.mono ?_
      rintro e w' ⟨rfl, hw⟩; obtain rfl := hw.symm
      clear HU HV hw
      go_wp2_with fail
      go_ret
      exact ⟨1, rfl, by omega, by omega, 0, rfl⟩

end Go.Proofs.Ygctac
