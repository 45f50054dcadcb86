/-
  ntt.Convolve, MulNTT.
-/
import Derived.Test.YgctacNt6
namespace Go.Proofs.Ygctac
open Go.RowKit Cx
set_option linter.unusedVariables false
set_option linter.unusedSimpArgs false

theorem belowP_det (z : Int) : ∃ y, ∀ w, Calls Tacg.prog 172 #[.int .u32 z] w fun r w' => r = .returned (.int .u32 y) ∧ w' = w := by
  rcases (show z < 998244353 ∨ 998244353 ≤ z by omega) with c | c
  · apply Exists.intro
    intro w
    go_enter Tacg.func172, Tacg.ntmps172
    go_wp2_with fail
    go_ret
    exact ⟨rfl, rfl⟩
  · apply Exists.intro
    intro w
    go_enter Tacg.func172, Tacg.ntmps172
    go_wp2_with fail
    go_ret
    exact ⟨rfl, rfl⟩
theorem mulMod_det (x y : Int) : ∃ z, ∀ w, Calls Tacg.prog 146 #[.int .u32 x, .int .u32 y] w fun r w' => r = .returned (.int .u32 z) ∧ w' = w := by
  obtain ⟨a, ha⟩ := belowP_det x
  obtain ⟨b, hb⟩ := belowP_det y
  have HA := hide ha
  have HB := hide hb
  clear ha hb
  apply Exists.intro
  intro w
  go_enter Tacg.func146, Tacg.ntmps146
  go_wp2_with fail
  refine (HA.out _).mono ?_
  rintro e w' ⟨rfl, hw⟩; obtain rfl := hw.symm
  go_wp2_with fail
  refine (HB.out _).mono ?_
  rintro e w' ⟨rfl, hw⟩; obtain rfl := hw.symm
  go_wp2_with fail
  go_ret
  exact ⟨rfl, rfl⟩

/-- Two rows beside each other, above what was. -/
def XY (w W : World) (gx gy n : Nat) : Prop := RowP W gx n 129 IsU32 ∧ RowP W gy n 129 IsU32 ∧ Below w.heap.size w W ∧ w.heap.size ≤ gx ∧ gx < gy

set_option maxRecDepth 100000 in
set_option maxHeartbeats 8000000 in
theorem nconv_any (p q : Option Addr) (n m : Nat) (n0 : 0 < n) (m0 : 0 < m) (hn : n ≤ 512) (hm : m ≤ 512) (w : World) (hp : Sl w p n) (hq : Sl w q m) :
    Calls Tacg.prog 102 #[.slice p n n, .slice q m m] w fun r w' => ∃ g, r = .returned (.tuple #[.slice (some ⟨g, 0, none⟩) (n + m - 1) (n + m - 1), .bool true]) ∧ RowP w' g (n + m - 1) 2 IsI64 ∧ Below w.heap.size w w' := by
  have HP := hide hp
  have HQ := hide hq
  have t1 := beq0 n0
  have t2 := beq0 m0
  have t3 : ¬ ((512 : Int) < (n : Int)) := by omega
  have t4 : ¬ ((512 : Int) < (m : Int)) := by omega
  obtain ⟨L, hL⟩ : ∃ L, L = n + m - 1 := ⟨_, rfl⟩
  have eL : (n : Int) + (m : Int) - 1 = (L : Int) := by omega
  have hL2 : L ≤ 1023 := by omega
  have rm := make131 L (by omega)
  have HLL := hide (show n ≤ L ∧ m ≤ L ∧ 0 < L by omega)
  rw [← hL]
  clear hL hp hq
  go_enter Tacg.func102, Tacg.ntmps102
  go_wp2_with fail
  go_loopw [7] (fun s7 w1 => ∃ kk : Nat, s7 = .int .i64 (p2 (kk + 1) : Int) ∧ kk ≤ 9 ∧ w1 = w) (fun s7 _ => 2048 - (intOf s7).toNat)
  case atStart => exact ⟨0, rfl, by omega, rfl⟩
  case round =>
    obtain ⟨kk, rfl, hk, hw⟩ := hrel
    obtain rfl := hw.symm
    clear hw
    have hpk := p2_le (show kk + 1 ≤ 11 by omega)
    have hpos := p2_pos (kk + 1)
    by_cases c : p2 (kk + 1) < L
    · have hk9 : kk + 1 ≤ 9 := by
        have : p2 (kk + 1) < p2 10 := Nat.lt_of_lt_of_le c (by rw [show p2 10 = 1024 from rfl]; omega)
        have h2 : kk + 1 < 10 := (Nat.pow_lt_pow_iff_right (by decide : 1 < 2)).1 this
        omega
      have c' : (p2 (kk + 1) : Int) < (L : Int) := by omega
      have e2 : (p2 (kk + 1) : Int) * 2 = (p2 (kk + 1 + 1) : Int) := by rw [p2_succ (kk + 1)]; omega
      have hs := p2_succ (kk + 1)
      have HS := hide hs
      clear hs
      go_wp2_with fail
      go_roundw
      case rel => exact ⟨kk + 1, by first | rfl | go_num, hk9, trivial⟩
      case measure => have := HS.out; simp [intOf] <;> omega
    · have c' : ¬ ((p2 (kk + 1) : Int) < (L : Int)) := by omega
      have HKK := hide hk
      obtain ⟨N, hN⟩ : ∃ N, N = p2 (kk + 1) := ⟨_, rfl⟩
      rw [← hN] at c c' hpk hpos ⊢
      have HN := hide hN
      clear hN
      go_wp2_with fail
      refine (elems_any p n N hpk (by have := HLL.out; omega) w HP.out).mono ?_
      rintro e w1 ⟨rfl, hx1, hb1⟩
      obtain ⟨gx, hgx⟩ : ∃ gx, gx = w.heap.size := ⟨_, rfl⟩
      rw [← hgx] at hx1 ⊢
      have HGX := hide hgx
      have HX1 := hide hx1
      have HB1 := hide hb1
      have HQ1 := hide (HQ.out.below hb1)
      clear hgx hx1 hb1 HP HQ
      go_wp2_with fail
      refine (elems_any q m N hpk (by have := HLL.out; omega) w1 HQ1.out).mono ?_
      rintro e w2 ⟨rfl, hy2, hb2⟩
      obtain ⟨gy, hgy⟩ : ∃ gy, gy = w1.heap.size := ⟨_, rfl⟩
      rw [← hgy] at hy2 ⊢
      have H2 : Hid (XY w w2 gx gy N) := hide ⟨HX1.out.after hb2, hy2, HB1.out.trans (hb2.mono HB1.out.size), by rw [HGX.out]; exact Nat.le_refl _, by rw [hgy]; exact HX1.out.lt⟩
      clear hgy hy2 hb2 HQ1 HB1 HX1
      clear w1
      go_wp2_with fail
      have hF := forward123 gx kk (by have := HKK.out; omega) w2 (by rw [← HN.out]; exact H2.out.1)
      rw [← HN.out] at hF
      refine hF.mono ?_
      rintro e w3 ⟨⟨s, rfl⟩, hr, ho⟩
      have H3 : Hid (XY w w3 gx gy N) := hide ⟨hr, H2.out.2.1.only ho (by have := H2.out.2.2.2; omega), H2.out.2.2.1.trans (ho.1.mono H2.out.2.2.2.1), H2.out.2.2.2⟩
      clear hF hr ho H2
      clear w2
      go_wp2_with fail
      have hF := forward123 gy kk (by have := HKK.out; omega) w3 (by rw [← HN.out]; exact H3.out.2.1)
      rw [← HN.out] at hF
      refine hF.mono ?_
      rintro e w4 ⟨⟨s2, rfl⟩, hr, ho⟩
      have H4 : Hid (XY w w4 gx gy N) := hide ⟨H3.out.1.only ho (by have := H3.out.2.2.2; omega), hr, H3.out.2.2.1.trans (ho.1.mono (by have := H3.out.2.2.2; omega)), H3.out.2.2.2⟩
      clear hF hr ho H3
      clear w3
      go_wp2_with fail
      go_loopw [10] (fun s10 W1 => ∃ (i : Nat) (W : World), s10 = .int .i64 i ∧ i ≤ N ∧ W1 = W ∧ Hid (XY w W gx gy N)) (fun s10 _ => N - (intOf s10).toNat)
      case atStart => exact ⟨0, _, rfl, Nat.zero_le _, rfl, H4⟩
      case round =>
        obtain ⟨i, W, rfl, hi, hw, hX⟩ := hrel
        obtain rfl := hw.symm
        clear hw H4
        by_cases ci : i < N
        · have ci' : (i : Int) < (N : Int) := by omega
          obtain ⟨_, a0, x, rfl⟩ := hX.out.1.cell ci
          obtain ⟨_, b0, y, rfl⟩ := hX.out.2.1.cell ci
          have f0 := hX.out.1.frozen i
          obtain ⟨v, hv⟩ := mulMod_det x y
          have HV := hide hv
          clear hv
          go_wp2_with fail
          refine wp_region_mid 12 (by kernel_rfl) (by decide) (by kernel_rfl) (by kernel_rfl) (by kernel_rfl) (by kernel_rfl) ⟨by kernel_rfl, by kernel_rfl⟩ ?_
          simp only [List.take_succ_cons, List.take_zero, List.drop_succ_cons, List.drop_zero, List.drop_nil]
          repeat (go_big_quiet_step (first | (go_at_call 146; exact Calls.quiet_of_same (HV.out _)) | fail))
          refine wpQuiet_nil ?_
          rintro w' ⟨nq, rfl⟩
          refine wpOp_by rfl rfl (fun K hK => ?_)
          go_simp
          apply hK
          refine ⟨fun w' => w' = _, rfl, wpQuiet_nil ?_⟩
          rintro w' rfl
          go_wp2_with fail
          go_roundw
          case rel => exact ⟨i + 1, _, by go_num, by omega, rfl, hide ⟨RowP.set (w := W.drewN nq) hX.out.1 ci ⟨_, rfl⟩, RowP.other (w := W.drewN nq) hX.out.2.1 (a := ⟨gx, i, none⟩) (by have := hX.out.2.2.2; simp; omega) _, (below_dN hX.out.2.2.1 nq).setCell (p := ⟨gx, i, none⟩) hX.out.2.2.2.1 _, hX.out.2.2.2⟩⟩
          case measure => simp [intOf] <;> omega
        · obtain rfl : N = i := by omega
          go_wp2_with fail
          have hI := inverse125 gx kk (by have := HKK.out; omega) W (by rw [← HN.out]; exact hX.out.1)
          rw [← HN.out] at hI
          refine hI.mono ?_
          rintro e w5 ⟨⟨s3, rfl⟩, hr, ho⟩
          have H5 : Hid (XY w w5 gx gy N) := hide ⟨hr, hX.out.2.1.only ho (by have := hX.out.2.2.2; omega), hX.out.2.2.1.trans (ho.1.mono hX.out.2.2.2.1), hX.out.2.2.2⟩
          clear hI hr ho hX
          go_wp2_with fail
          have H6 : Hid (RowP (w5.alloc (.cells (madeCells #[.int .i64 0] L) 2)) gx N 129 IsU32 ∧ RowP (w5.alloc (.cells (madeCells #[.int .i64 0] L) 2)) w5.heap.size L 2 IsI64 ∧ Below w.heap.size w (w5.alloc (.cells (madeCells #[.int .i64 0] L) 2)) ∧ w.heap.size ≤ w5.heap.size ∧ gx < w5.heap.size) :=
            hide ⟨H5.out.1.after ((Below.refl _ _).alloc (Nat.le_refl _) _), RowP.new w5 L 2 _ _ ⟨0, rfl⟩, H5.out.2.2.1.alloc H5.out.2.2.1.size _, H5.out.2.2.1.size, H5.out.1.lt⟩
          generalize w5.alloc (.cells (madeCells #[.int .i64 0] L) 2) = w6 at *
          generalize w5.heap.size = gc at *
          clear H5
          go_loopw [12] (fun s12 W1 => ∃ (i : Nat) (W : World), s12 = .int .i64 i ∧ i ≤ L ∧ W1 = W ∧ Hid (RowP W gx N 129 IsU32 ∧ RowP W gc L 2 IsI64 ∧ Below w.heap.size w W ∧ w.heap.size ≤ gc ∧ gx < gc)) (fun s12 _ => L - (intOf s12).toNat)
          case atStart => exact ⟨0, _, rfl, Nat.zero_le _, rfl, H6⟩
          case round =>
            obtain ⟨j, W, rfl, hj, hw, hX⟩ := hrel
            obtain rfl := hw.symm
            clear hw H6
            by_cases cj : j < L
            · have cj' : (j : Int) < (L : Int) := by omega
              have cj2 : (j : Int) < (N : Int) := by omega
              obtain ⟨_, a0, x, rfl⟩ := hX.out.1.cell (i := j) (by omega)
              obtain ⟨_, b0, y, rfl⟩ := hX.out.2.1.cell cj
              have f0 := hX.out.2.1.frozen j
              go_wp2_with fail
              go_roundw
              case rel => exact ⟨j + 1, _, by go_num, by omega, rfl, hide ⟨hX.out.1.other (a := ⟨gc, j, none⟩) (by have := hX.out.2.2.2; simp; omega) _, hX.out.2.1.set cj ⟨_, rfl⟩, hX.out.2.2.1.setCell (p := ⟨gc, j, none⟩) hX.out.2.2.2.1 _, hX.out.2.2.2⟩⟩
              case measure => simp [intOf] <;> omega
            · obtain rfl : L = j := by omega
              go_wp2_with fail
              go_ret2
              exact ⟨gc, rfl, hX.out.2.1, hX.out.2.2.1⟩

set_option maxRecDepth 100000 in
theorem nconv_r (a : Option Addr) (n c : Nat) (b : Option Addr) (hn : n ≤ 512) (w : World) :
    Calls Tacg.prog 102 #[.slice a n c, .slice b 0 0] w fun r w' => r = .returned (.tuple #[.slice none 0 0, .bool true]) ∧ w' = w := by
  have t1 : ¬ (512 : Int) < (n : Int) := by omega
  by_cases h : n = 0
  · subst h
    go_enter Tacg.func102, Tacg.ntmps102
    go_wp2
    go_ret2
    exact ⟨rfl, rfl⟩
  · have t2 : ¬ (n : Int) = 0 := by omega
    go_enter Tacg.func102, Tacg.ntmps102
    go_wp2
    go_ret2
    exact ⟨rfl, rfl⟩
theorem mulNTT_r (a : Option Addr) (n c : Nat) (b : Option Addr) (hn : n ≤ 512) (w : World) :
    Calls Tacg.prog 100 #[.slice a n c, .slice b 0 0] w fun r w' => r = .returned (.tuple #[.slice none 0 0, .bool true]) ∧ Below w.heap.size w w' := by
  go_enter Tacg.func100, Tacg.ntmps100
  go_wp2_with (first | (go_at_call 102; refine (nconv_r a n c b hn _).mono ?_; rintro e w' ⟨rfl, hw⟩; obtain rfl := hw.symm) | (go_at_call 144; refine (carry_nil _).mono ?_; rintro e w' ⟨rfl, hb⟩))
  go_ret2
  exact ⟨rfl, hb⟩
set_option maxRecDepth 100000 in
set_option maxHeartbeats 8000000 in
theorem mulNTT_any (p q : Option Addr) (n m : Nat) (hn : n ≤ 512) (hm : m ≤ 512) (w : World) (hp : Sl w p n) (hq : Sl w q m) :
    Calls Tacg.prog 100 #[.slice p n n, .slice q m m] w fun r w' => ∃ x s, r = .returned (.tuple #[x, .bool s]) ∧ NatB w' x w.heap.size 2000 ∧ Below w.heap.size w w' := by
  rcases sl_beq w hp with ⟨rfl, rfl⟩ | n0
  · exact (mulNTT_l q m m none hm w).mono (by rintro r w' ⟨rfl, hb⟩; exact ⟨_, _, rfl, .inl rfl, hb⟩)
  rcases sl_beq w hq with ⟨rfl, rfl⟩ | m0
  · exact (mulNTT_r p n n none hn w).mono (by rintro r w' ⟨rfl, hb⟩; exact ⟨_, _, rfl, .inl rfl, hb⟩)
  have HC := hide (nconv_any p q n m n0 m0 hn hm w hp hq)
  clear hp hq
  go_enter Tacg.func100, Tacg.ntmps100
  go_wp2_with fail
  refine HC.out.mono ?_
  rintro e w1 ⟨g, rfl, h2, h3⟩
  have HE := hide (And.intro h2 h3)
  clear h2 h3 HC
  obtain ⟨N, hN⟩ : ∃ N, N = n + m - 1 := ⟨_, rfl⟩
  rw [← hN] at HE ⊢
  have hN2 : N ≤ 1023 := by omega
  clear hN
  go_wp2_with fail
  refine (carry_row g N (by omega) w1 HE.out.1).mono ?_
  rintro e w2 ⟨x, s2, rfl, hN, hB⟩
  have HX := hide (And.intro (hN.mono (HE.out.2.size) (show N + 8 ≤ 2000 by omega)) (HE.out.2.trans (hB.mono HE.out.2.size)))
  clear hN hB
  go_wp2_with fail
  go_ret2
  first | exact ⟨_, _, rfl, HX.out⟩ | exact ⟨_, .inl rfl, HX.out⟩
end Go.Proofs.Ygctac
