/-
  ntt.passes.
-/
import Derived.Test.YgctacNt4
namespace Go.Proofs.Ygctac
open Go.RowKit Cx
set_option linter.unusedVariables false
set_option linter.unusedSimpArgs false

theorem Only.high {g gf : Nat} {wb W W' : World} (h : Only g wb W) (h' : Only gf W W') (hb : wb.heap.size ≤ gf) (hg : g < gf) : Only g wb W' :=
  ⟨h.1.trans (h'.1.mono (Nat.le_of_lt hg)), fun b h1 h2 => (h'.1.block b (by omega)).trans (h.2 b h1 h2)⟩
theorem Only.setHigh {g : Nat} {wb W : World} (h : Only g wb W) {a : Addr} (hb : wb.heap.size ≤ a.block) (hg : g ≤ a.block) (v : Value) : Only g wb (W.setCell a v) :=
  ⟨h.1.setCell hg v, fun b h1 h2 => by rw [Below.heap_setCell _ _ _ _ (by omega)]; exact h.2 b h1 h2⟩
theorem half_p2 (k : Nat) : Int.tdiv (p2 (k + 1) : Int) 2 = (p2 k : Int) := by
  rw [p2_succ, Int.natCast_mul]
  rw [Int.mul_comm]
  exact Int.mul_tdiv_cancel _ (by decide)

/-- The row x and the factors' array beside it. -/
def PK (wb W : World) (g n gf M : Nat) (t : TypeId) : Prop := RowP W g n 129 IsU32 ∧ RowP W gf M t IsU32 ∧ Only g wb W

set_option maxRecDepth 100000 in
set_option maxHeartbeats 8000000 in
theorem passes_any (wb : World) (g kk gf T : Nat) (t : TypeId) (z : Int) (hk : kk ≤ 10) (hT : p2 kk ≤ T) (hT2 : T ≤ 1024) (w : World) (hx : PK wb w g (p2 (kk + 1)) gf (4 * T) t) (hg : g < wb.heap.size) (hgf : wb.heap.size ≤ gf) :
    Calls Tacg.prog 175 #[.slice (some ⟨g, 0, none⟩) (p2 (kk + 1)) (p2 (kk + 1)), .int .i64 ((kk : Int) + 1), .int .u32 z, .slice (some ⟨gf, 0, none⟩) T T, .slice (some ⟨gf, 2 * T, none⟩) T T] w fun r w' => r = .returned (.tuple #[]) ∧ PK wb w' g (p2 (kk + 1)) gf (4 * T) t := by
  have HX := hide hx
  have HG := hide (And.intro hg hgf)
  have HRV := hide (reverse176 g (kk + 1) (by omega) w hx.1)
  have hp := p2_le (show kk + 1 ≤ 11 by omega)
  have hs := p2_succ kk
  have hpos := p2_pos kk
  have hh := half_p2 kk
  clear hx hg hgf
  obtain ⟨n, hN⟩ : ∃ n, n = p2 (kk + 1) := ⟨_, rfl⟩
  rw [← hN] at HX HRV hp hs hh ⊢
  have HN := hide hN
  have HS := hide hs
  clear hN hs
  go_enter Tacg.func175, Tacg.ntmps175
  go_wp2_with fail
  refine HRV.out.mono ?_
  rintro e w1 ⟨rfl, hR, hO⟩
  have H1 : Hid (PK wb w1 g n gf (4 * T) t) := hide ⟨hR, HX.out.2.1.only hO (by have := HG.out; omega), HX.out.2.2.trans hO⟩
  clear hR hO HX HRV
  go_wp2_with fail
  go_loopw [10, 11, 12] (fun s10 s11 s12 W1 => ∃ (i : Nat) (W : World), s10 = .int .i64 ((2 * i : Nat) : Int) ∧ 2 * i ≤ n ∧ W1 = W ∧ Hid (PK wb W g n gf (4 * T) t)) (fun s10 _ _ _ => n - (intOf s10).toNat)
  case atStart => exact ⟨0, _, rfl, by omega, rfl, H1⟩
  case round =>
    obtain ⟨i, W, rfl, hi, hw, hX⟩ := hrel
    obtain rfl := hw.symm
    clear hw H1
    by_cases ci : 2 * i < n
    · have ci3 : 2 * i + 1 < n := by have := HS.out; omega
      have ci' : ((2 * i : Nat) : Int) + 1 < (n : Int) := by omega
      have ci2 : ((2 * i : Nat) : Int) < (n : Int) := by omega
      obtain ⟨_, a0, u, rfl⟩ := hX.out.1.cell (i := 2 * i) (by omega)
      obtain ⟨_, a1, v, rfl⟩ := hX.out.1.cell (i := 2 * i + 1) (by omega)
      have f0 := hX.out.1.frozen (2 * i)
      have f1 := hX.out.1.frozen (2 * i + 1)
      go_wp2_with fail
      go_quiet (fail)
      go_wp2_with fail
      go_roundw
      case rel => exact ⟨i + 1, _, by go_num, by omega, rfl, hide ⟨(RowP.set (w := W.drewN nq) hX.out.1 (i := 2 * i) (by omega) ⟨_, rfl⟩).set (i := 2 * i + 1) (by omega) ⟨_, rfl⟩, (RowP.other (w := W.drewN nq) hX.out.2.1 (a := ⟨g, 2 * i, none⟩) (by have := HG.out; simp; omega) _).other (a := ⟨g, 2 * i + 1, none⟩) (by have := HG.out; simp; omega) _, ((hX.out.2.2.drewN nq).set (a := ⟨g, 2 * i, none⟩) rfl _).set (a := ⟨g, 2 * i + 1, none⟩) rfl _⟩⟩
      case measure => simp [intOf] <;> omega
    · obtain hi2 : 2 * i = n := by omega
      have ci' : ¬ (((2 * i : Nat) : Int) + 1 < (n : Int)) := by omega
      clear hi2
      go_wp2_with fail
      refine (factors_any gf (4 * T) kk T t z (by omega) (by omega) hT W hX.out.2.1).mono ?_
      rintro e w2 ⟨rfl, hR, hO⟩
      have H2 : Hid (PK wb w2 g n gf (4 * T) t) := hide ⟨hX.out.1.only hO (by have := HG.out; omega), hR, hX.out.2.2.high hO HG.out.2 (by have := HG.out; omega)⟩
      clear hR hO hX
      go_wp2_with fail
      go_loopw [13, 14, 15, 16, 17] (fun s13 s14 s15 s16 s17 W1 => ∃ (m : Nat) (W : World), s13 = .int .i64 ((m : Int) + 1) ∧ 1 ≤ m ∧ m ≤ kk + 1 ∧ W1 = W ∧ Hid (PK wb W g n gf (4 * T) t)) (fun s13 _ _ _ _ _ => 20 - (intOf s13).toNat)
      case atStart => exact ⟨1, _, rfl, by omega, by omega, rfl, H2⟩
      case round =>
        obtain ⟨m, W, rfl, m1, m2, hw, hX⟩ := hrel
        obtain rfl := hw.symm
        clear hw H2
        by_cases cm : m ≤ kk
        · obtain ⟨r, hr⟩ : ∃ r, kk = m + r := ⟨kk - m, by omega⟩
          have t1 : (m : Int) + 1 ≤ (kk : Int) + 1 := by omega
          have w1 := wrap_p2 m (by omega)
          have w2 := wrap_p2 r (by omega)
          have t2 : ¬ ((m : Int) < 0) := by omega
          have t3 : ¬ ((r : Int) < 0) := by omega
          have t4 : ¬ ((kk : Int) + 1 - ((m : Int) + 1) < 0) := by omega
          have HRR := hide hr
          have hmr : p2 kk = p2 m * p2 r := by rw [hr]; exact p2_add m r
          have hHle : p2 m ≤ p2 kk := p2_mono cm
          have HMR := hide hmr
          clear hr hmr
          go_wp2_with fail
          go_quiet (fail)
          rw [w1, show kk + 1 - (m + 1) = r by have := HRR.out; omega, w2]
          have hm1 := p2_pos m
          have hr1 := p2_pos r
          have hdbl := p2_succ m
          have HST := hide (And.intro HMR.out hdbl)
          obtain ⟨H, hH⟩ : ∃ H, H = p2 m := ⟨_, rfl⟩
          obtain ⟨ST, hST⟩ : ∃ ST, ST = p2 r := ⟨_, rfl⟩
          obtain ⟨NT, hNT⟩ : ∃ NT, NT = p2 kk := ⟨_, rfl⟩
          rw [← hH, ← hST]
          rw [← hH, ← hST, ← hNT] at HST
          rw [← hH] at hm1
          rw [← hNT, ← hH] at hHle
          rw [← hNT] at hT hpos hh HS
          have HHH := hide (And.intro hH (And.intro hST hNT))
          clear hH hST hNT w1 w2 hdbl hr1 t1 t2 t3 t4
          have HX2 : Hid (PK wb (W.drewN nq) g n gf (4 * T) t) := hide ⟨hX.out.1, hX.out.2.1, hX.out.2.2.drewN nq⟩
          generalize W.drewN nq = W0 at *
          clear hX
          go_wp2_with fail
          go_loopw [16] (fun s16 W1 => ∃ (j : Nat) (W : World), s16 = .int .i64 j ∧ j ≤ H ∧ W1 = W ∧ Hid (PK wb W g n gf (4 * T) t)) (fun s16 _ => H - (intOf s16).toNat)
          case atStart => exact ⟨0, _, rfl, by omega, rfl, HX2⟩
          case round =>
            obtain ⟨j, W, rfl, hj, hw, hX⟩ := hrel
            obtain rfl := hw.symm
            clear hw HX2
            by_cases cj : j < H
            · have cj' : (j : Int) < (H : Int) := by omega
              have hjs : j * ST < NT := by
                rw [HST.out.1]
                exact Nat.mul_lt_mul_of_pos_right cj (by rw [HHH.out.2.1]; exact p2_pos r)
              have ejs : (j : Int) * (ST : Int) = ((j * ST : Nat) : Int) := by rw [Int.natCast_mul]
              have hjs' : ((j * ST : Nat) : Int) < (T : Int) := by omega
              have hjT : (j : Int) < (T : Int) := by omega
              obtain ⟨_, a0, u, rfl⟩ := hX.out.2.1.cell (i := (j * ST) * 2) (by omega)
              obtain ⟨_, a1, v, rfl⟩ := hX.out.2.1.cell (i := (j * ST) * 2 + 1) (by omega)
              obtain ⟨_, b0, u', rfl⟩ := hX.out.2.1.cell (i := 2 * T + j * 2) (by omega)
              obtain ⟨_, b1, v', rfl⟩ := hX.out.2.1.cell (i := 2 * T + j * 2 + 1) (by omega)
              have f0 := hX.out.2.1.frozen (2 * T + j * 2)
              have f1 := hX.out.2.1.frozen (2 * T + j * 2 + 1)
              generalize hjss : j * ST = js at *
              go_wp2_with fail
              go_roundw
              case rel => exact ⟨j + 1, _, by go_num, by omega, rfl, hide ⟨(hX.out.1.other (a := ⟨gf, 2 * T + j * 2, none⟩) (by have := HG.out; simp; omega) _).other (a := ⟨gf, 2 * T + j * 2 + 1, none⟩) (by have := HG.out; simp; omega) _, (hX.out.2.1.set (i := 2 * T + j * 2) (by omega) ⟨_, rfl⟩).set (i := 2 * T + j * 2 + 1) (by omega) ⟨_, rfl⟩, (hX.out.2.2.setHigh (a := ⟨gf, 2 * T + j * 2, none⟩) HG.out.2 (by have := HG.out; simp; omega) _).setHigh (a := ⟨gf, 2 * T + j * 2 + 1, none⟩) HG.out.2 (by have := HG.out; simp; omega) _⟩⟩
              case measure => simp [intOf] <;> omega
            · obtain rfl : H = j := by omega
              go_wp2_with fail
              go_loopw [17] (fun s17 W1 => ∃ (s : Nat) (W : World), s17 = .int .i64 s ∧ 2 * H ∣ s ∧ s ≤ n ∧ W1 = W ∧ Hid (PK wb W g n gf (4 * T) t)) (fun s17 _ => n - (intOf s17).toNat)
              case atStart => exact ⟨0, _, rfl, ⟨0, by omega⟩, by omega, rfl, hX⟩
              case round =>
                obtain ⟨s, W, rfl, hdv, hs, hw, hX⟩ := hrel
                obtain rfl := hw.symm
                clear hw
                by_cases cs : s < n
                · have cs' : (s : Int) < (n : Int) := by omega
                  have hfit : s + 2 * H ≤ n := by
                    have := block_fits (s := s) (a := m + 1) (b := r) (by rw [HST.out.2]; exact hdv) (by rw [show m + 1 + r = kk + 1 by have := HRR.out; omega, ← HN.out]; exact cs)
                    rw [show m + 1 + r = kk + 1 by have := HRR.out; omega, ← HN.out, HST.out.2] at this
                    exact this
                  have q1 : (s : Int) + (H : Int) ≤ (n : Int) := by omega
                  have q2 : (s : Int) + 2 * (H : Int) ≤ (n : Int) := by omega
                  have q3 : (H : Int) ≤ (T : Int) := by omega
                  have q4 : (s : Int) ≤ (s : Int) + (H : Int) := by omega
                  have q5 : (s : Int) + (H : Int) ≤ (s : Int) + 2 * (H : Int) := by omega
                  have HDV := hide hdv
                  clear hdv
                  go_wp2_with fail
                  refine wp_region_mid 26 (by kernel_rfl) (by decide) (by kernel_rfl) (by kernel_rfl) (by kernel_rfl) (by kernel_rfl) ⟨by kernel_rfl, by kernel_rfl⟩ ?_
                  simp only [List.take_succ_cons, List.take_zero, List.drop_succ_cons, List.drop_zero, List.drop_nil]
                  repeat (go_big_quiet_step (fail))
                  refine wpQuiet_nil ?_
                  rintro w' ⟨nq, rfl⟩
                  refine wpOp_by rfl rfl (fun K hK => ?_)
                  go_simp
                  rw [show s + 2 * H - (s + H) = H by omega]
                  refine (block_any g n s H gf (4 * T) (2 * T) t hp hfit (by omega) (by omega) (by have := HG.out; omega) (W.drewN nq) hX.out.1 hX.out.2.1).mono ?_
                  rintro e w6 ⟨rfl, hR6, hO6⟩
                  have H6 : Hid (PK wb w6 g n gf (4 * T) t) := hide ⟨hR6, RowP.only (w := W.drewN nq) hX.out.2.1 hO6 (by have := HG.out; omega), (hX.out.2.2.drewN nq).trans hO6⟩
                  clear hR6 hO6 hX
                  apply hK
                  refine ⟨fun w' => w' = _, rfl, wpQuiet_nil ?_⟩
                  rintro w' rfl
                  go_wp2_with fail
                  go_roundw
                  case rel => exact ⟨s + 2 * H, _, by go_num, Nat.dvd_add HDV.out (Nat.dvd_refl _), hfit, rfl, H6⟩
                  case measure => simp [intOf] <;> omega
                · obtain rfl : n = s := by omega
                  go_wp2_with fail
                  go_roundw
                  case rel => exact ⟨m + 1, _, by go_num, by omega, by omega, rfl, hX⟩
                  case measure => simp [intOf] <;> omega
        · have t1 : ¬ ((m : Int) + 1 ≤ (kk : Int) + 1) := by omega
          go_wp2_with fail
          go_loopw [18, 19] (fun s18 s19 W1 => ∃ (i : Nat) (W : World), s18 = .int .i64 i ∧ i ≤ n ∧ W1 = W ∧ Hid (PK wb W g n gf (4 * T) t)) (fun s18 _ _ => n - (intOf s18).toNat)
          case atStart => exact ⟨0, _, rfl, by omega, rfl, hX⟩
          case round =>
            obtain ⟨j, W, rfl, hj, hw, hX⟩ := hrel
            obtain rfl := hw.symm
            clear hw
            by_cases cj : j < n
            · have cj' : (j : Int) < (n : Int) := by omega
              obtain ⟨_, a0, u, rfl⟩ := hX.out.1.cell (i := j) (by omega)
              have f0 := hX.out.1.frozen j
              go_wp2_with (go_at_call 167; refine (foldP_any _ _).mono ?_; rintro e w' ⟨y, rfl, hw⟩; obtain rfl := hw.symm; clear hw)
              all_goals (go_roundw)
              all_goals first
                | exact ⟨j + 1, _, by go_num, by omega, rfl, hide ⟨hX.out.1.set (i := j) (by omega) ⟨_, rfl⟩, hX.out.2.1.other (a := ⟨g, j, none⟩) (by have := HG.out; simp; omega) _, hX.out.2.2.set (a := ⟨g, j, none⟩) rfl _⟩⟩
                | (simp [intOf]; omega)
            · obtain rfl : n = j := by omega
              go_wp2_with fail
              go_end0
              exact ⟨rfl, hX.out⟩
end Go.Proofs.Ygctac
