/-
  ntt.transform, Forward, Inverse.
-/
import Derived.Test.YgctacNt5
namespace Go.Proofs.Ygctac
open Go.RowKit Cx
set_option linter.unusedVariables false
set_option linter.unusedSimpArgs false

def zc (n : Nat) : Array Value := (List.replicate n (Value.int .u32 0)).toArray
def zc64 : Array Value := zc 64
def zc4096 : Array Value := zc 4096
@[simp, go_sem] theorem zeroValue193 (w : World) : (zeroValue 193).run Tacg.prog w = .ok (.agg zc64) w := by kernel_rfl
@[simp, go_sem] theorem zeroValue196 (w : World) : (zeroValue 196).run Tacg.prog w = .ok (.agg zc4096) w := by kernel_rfl
theorem zc_size (n : Nat) : (zc n).size = n := by simp [zc]
@[simp] theorem zc64_ne : zc64 ≠ #[] := by
  intro h
  have := congrArg Array.size h
  rw [zc64, zc_size] at this
  cases this
@[simp] theorem zc4096_ne : zc4096 ≠ #[] := by
  intro h
  have := congrArg Array.size h
  rw [zc4096, zc_size] at this
  cases this
theorem rowP_zc (w : World) (n : Nat) (t : TypeId) : RowP (w.alloc (.cells (zc n) t)) w.heap.size n t IsU32 := by
  refine ⟨_, alloc_last _ _, zc_size n, fun i hi => ⟨.int .u32 0, ?_, 0, rfl⟩⟩
  simp [zc, hi]

set_option maxRecDepth 100000 in
set_option maxHeartbeats 1000000 in
theorem trans_any (g kk : Nat) (z : Int) (hk : kk ≤ 10) (w : World) (hx : RowP w g (p2 (kk + 1)) 129 IsU32) :
    Calls Tacg.prog 164 #[.slice (some ⟨g, 0, none⟩) (p2 (kk + 1)) (p2 (kk + 1)), .int .i64 ((kk : Int) + 1), .int .u32 z] w fun r w' => r = .returned (.tuple #[]) ∧ RowP w' g (p2 (kk + 1)) 129 IsU32 ∧ Only g w w' := by
  have hs := p2_succ kk
  have hp := p2_le (show kk + 1 ≤ 11 by omega)
  have HX := hide hx
  clear hx
  by_cases c : p2 (kk + 1) ≤ 32
  · have c' : (p2 (kk + 1) : Int) ≤ 32 := by omega
    have HS := hide hs
    clear hs
    go_enter Tacg.func164, Tacg.ntmps164
    go_wp2_with fail
    have HP : Hid (PK w (w.alloc (.cells zc64 193)) g (p2 (kk + 1)) w.heap.size (4 * 16) 193) := hide ⟨HX.out.after ((Below.refl _ _).alloc (Nat.le_refl _) _), rowP_zc w 64 193, (Only.refl g w).ext ((Below.refl _ _).alloc (Nat.le_refl _) _) (Nat.le_of_lt HX.out.lt)⟩
    have HG := hide HX.out.lt
    clear HX
    obtain ⟨gf, hgf⟩ : ∃ gf, gf = w.heap.size := ⟨_, rfl⟩
    rw [← hgf] at HP ⊢
    have HGF := hide hgf
    clear hgf
    change Code.wp Tacg.prog _ _ _ (w.alloc (.cells zc64 193))
    generalize w.alloc (.cells zc64 193) = w1 at *
    refine wp_region_mid 5 (by kernel_rfl) (by decide) (by kernel_rfl) (by kernel_rfl) (by kernel_rfl) (by kernel_rfl) ⟨by kernel_rfl, by kernel_rfl⟩ ?_
    simp only [List.take_succ_cons, List.take_zero, List.drop_succ_cons, List.drop_zero, List.drop_nil]
    repeat (go_big_quiet_step (fail))
    refine wpQuiet_nil ?_
    rintro w' ⟨nq, rfl⟩
    refine wpOp_by rfl rfl (fun K hK => ?_)
    go_simp
    have hP := passes_any w g kk gf 16 193 z hk (by have := HS.out; omega) (by omega) (w1.drewN nq) ⟨HP.out.1, HP.out.2.1, HP.out.2.2.drewN nq⟩ HG.out (by rw [HGF.out]; exact Nat.le_refl _)
    rw [show 2 * 16 = 32 from rfl] at hP
    refine hP.mono ?_
    rintro e w6 ⟨rfl, h6⟩
    have H6 := hide h6
    clear h6
    apply hK
    refine ⟨fun w' => w' = _, rfl, wpQuiet_nil ?_⟩
    rintro w' rfl
    go_wp2_with fail
    refine bodyPost_ret (results_none rfl _ _ _) rfl ?_
    exact ⟨rfl, H6.out.1, H6.out.2.2⟩
  · have c' : ¬ ((p2 (kk + 1) : Int) ≤ 32) := by omega
    have HS := hide hs
    clear hs
    go_enter Tacg.func164, Tacg.ntmps164
    go_wp2_with fail
    have HP : Hid (PK w (w.alloc (.cells zc4096 196)) g (p2 (kk + 1)) w.heap.size (4 * 1024) 196) := hide ⟨HX.out.after ((Below.refl _ _).alloc (Nat.le_refl _) _), rowP_zc w 4096 196, (Only.refl g w).ext ((Below.refl _ _).alloc (Nat.le_refl _) _) (Nat.le_of_lt HX.out.lt)⟩
    have HG := hide HX.out.lt
    clear HX
    obtain ⟨gf, hgf⟩ : ∃ gf, gf = w.heap.size := ⟨_, rfl⟩
    rw [← hgf] at HP ⊢
    have HGF := hide hgf
    clear hgf
    change Code.wp Tacg.prog _ _ _ (w.alloc (.cells zc4096 196))
    generalize w.alloc (.cells zc4096 196) = w1 at *
    refine wp_region_mid 8 (by kernel_rfl) (by decide) (by kernel_rfl) (by kernel_rfl) (by kernel_rfl) (by kernel_rfl) ⟨by kernel_rfl, by kernel_rfl⟩ ?_
    simp only [List.take_succ_cons, List.take_zero, List.drop_succ_cons, List.drop_zero, List.drop_nil]
    repeat (go_big_quiet_step (fail))
    refine wpQuiet_nil ?_
    rintro w' ⟨nq, rfl⟩
    refine wpOp_by rfl rfl (fun K hK => ?_)
    go_simp
    have hP := passes_any w g kk gf 1024 196 z hk (by have := HS.out; omega) (by omega) (w1.drewN nq) ⟨HP.out.1, HP.out.2.1, HP.out.2.2.drewN nq⟩ HG.out (by rw [HGF.out]; exact Nat.le_refl _)
    rw [show 2 * 1024 = 2048 from rfl] at hP
    refine hP.mono ?_
    rintro e w6 ⟨rfl, h6⟩
    have H6 := hide h6
    clear h6
    apply hK
    refine ⟨fun w' => w' = _, rfl, wpQuiet_nil ?_⟩
    rintro w' rfl
    go_wp2_with fail
    go_end0
    exact ⟨rfl, H6.out.1, H6.out.2.2⟩

set_option maxRecDepth 100000 in
set_option maxHeartbeats 1000000 in
theorem forward123 (g kk : Nat) (hk : kk ≤ 10) (w : World) (hx : RowP w g (p2 (kk + 1)) 129 IsU32) :
    Calls Tacg.prog 123 #[.slice (some ⟨g, 0, none⟩) (p2 (kk + 1)) (p2 (kk + 1))] w fun r w' => BoolR r ∧ RowP w' g (p2 (kk + 1)) 129 IsU32 ∧ Only g w w' := by
  have hp := p2_le (show kk + 1 ≤ 11 by omega)
  have HX := hide hx
  have HL := hide (level153 (kk + 1) (by omega) w)
  have HB := hide (isBelow_any g (p2 (kk + 1)) hp w hx)
  have t1 : ¬ ((kk : Int) + 1 < 0) := by omega
  clear hx
  go_enter Tacg.func123, Tacg.ntmps123
  go_wp2_with fail
  refine HL.out.mono ?_
  rintro e w1 ⟨rfl, hw⟩
  obtain rfl := hw.symm
  clear hw HL
  go_wp2_with fail
  refine HB.out.mono ?_
  rintro e w1 ⟨⟨s, rfl⟩, hw⟩
  obtain rfl := hw.symm
  clear hw HB
  cases s
  · go_wp2_with fail
    go_ret
    exact ⟨⟨_, rfl⟩, HX.out, Only.refl _ _⟩
  · go_wp2_with fail
    have hr := root_any (kk + 1) (by omega) w
    rw [Int.natCast_add] at hr
    refine hr.mono ?_
    rintro e w1 ⟨y, rfl, hw⟩
    obtain rfl := hw.symm
    clear hw hr
    go_wp2_with fail
    refine (trans_any g kk y hk w HX.out).mono ?_
    rintro e w1 ⟨rfl, h1, h2⟩
    have H1 := hide h1
    have H2 := hide h2
    clear h1 h2
    go_wp2_with fail
    go_ret
    exact ⟨⟨_, rfl⟩, H1.out, H2.out⟩

set_option maxRecDepth 100000 in
set_option maxHeartbeats 4000000 in
theorem inverse125 (g kk : Nat) (hk : kk ≤ 10) (w : World) (hx : RowP w g (p2 (kk + 1)) 129 IsU32) :
    Calls Tacg.prog 125 #[.slice (some ⟨g, 0, none⟩) (p2 (kk + 1)) (p2 (kk + 1))] w fun r w' => BoolR r ∧ RowP w' g (p2 (kk + 1)) 129 IsU32 ∧ Only g w w' := by
  have hp := p2_le (show kk + 1 ≤ 11 by omega)
  have HX := hide hx
  have HL := hide (level153 (kk + 1) (by omega) w)
  have HB := hide (isBelow_any g (p2 (kk + 1)) hp w hx)
  have t1 : ¬ ((kk : Int) + 1 < 0) := by omega
  clear hx
  go_enter Tacg.func125, Tacg.ntmps125
  go_wp2_with fail
  refine HL.out.mono ?_
  rintro e w1 ⟨rfl, hw⟩
  obtain rfl := hw.symm
  clear hw HL
  go_wp2_with fail
  refine HB.out.mono ?_
  rintro e w1 ⟨⟨s, rfl⟩, hw⟩
  obtain rfl := hw.symm
  clear hw HB
  cases s
  · go_wp2_with fail
    go_ret
    exact ⟨⟨_, rfl⟩, HX.out, Only.refl _ _⟩
  · go_wp2_with fail
    have hr := root_any (kk + 1) (by omega) w
    rw [Int.natCast_add] at hr
    refine hr.mono ?_
    rintro e w1 ⟨y, rfl, hw⟩
    obtain rfl := hw.symm
    clear hw hr
    go_wp2_with fail
    refine (invMod_any _ _).mono ?_
    rintro e w1 ⟨y2, rfl, hw⟩
    obtain rfl := hw.symm
    clear hw
    go_wp2_with fail
    refine (trans_any g kk y2 hk w HX.out).mono ?_
    rintro e w1 ⟨rfl, h1, h2⟩
    have H1 := hide h1
    have H2 := hide h2
    clear h1 h2 HX
    go_wp2_with fail
    refine (invMod_any _ _).mono ?_
    rintro e w2 ⟨y3, rfl, hw⟩
    obtain rfl := hw.symm
    clear hw
    go_wp2_with fail
    refine (factorOf_any _ _).mono ?_
    rintro e w2 ⟨fa, fb, rfl, hb⟩
    have HR3 := hide (H1.out.after hb)
    have HO3 := hide (H2.out.ext hb (Nat.le_of_lt H1.out.lt))
    clear hb H1 H2
    go_wp2_with fail
    have HR4 := hide (HR3.out.after ((Below.refl _ _).alloc (Nat.le_refl _) (.cells #[.int .u32 fa, .int .u32 fb] 187)))
    have HO4 := hide (HO3.out.ext ((Below.refl _ _).alloc (Nat.le_refl _) (.cells #[.int .u32 fa, .int .u32 fb] 187)) (Nat.le_of_lt HR3.out.lt))
    have HF4 := hide (fac_new w2 fa fb)
    have HNE := hide (Nat.ne_of_gt HR3.out.lt)
    generalize w2.alloc (.cells #[.int .u32 fa, .int .u32 fb] 187) = w4 at *
    generalize w2.heap.size = gb at *
    clear HR3 HO3
    obtain ⟨n, hN⟩ : ∃ n, n = p2 (kk + 1) := ⟨_, rfl⟩
    rw [← hN] at HR4 hp ⊢
    have HN := hide hN
    clear hN
    go_loopw [6] (fun s6 W1 => ∃ (j : Nat) (W : World), s6 = .int .i64 j ∧ j ≤ n ∧ W1 = W ∧ Hid (RowP W g n 129 IsU32) ∧ Hid (RowP W gb 2 187 IsU32) ∧ Hid (Only g w W)) (fun s6 _ => n - (intOf s6).toNat)
    case atStart => exact ⟨0, _, rfl, Nat.zero_le _, rfl, HR4, HF4, HO4⟩
    case round =>
      obtain ⟨j, W, rfl, hj, hw, hR, hF, hO⟩ := hrel
      obtain rfl := hw.symm
      clear hw HR4 HF4 HO4
      by_cases cj : j < n
      · have cj' : (j : Int) < (n : Int) := by omega
        obtain ⟨_, b0, x0, rfl⟩ := hF.out.cell (i := 0) (by omega)
        obtain ⟨_, b1, x1, rfl⟩ := hF.out.cell (i := 1) (by omega)
        obtain ⟨_, d0, y0, rfl⟩ := hR.out.cell (i := j) (by omega)
        have e0 := Grown.cell b0
        have e1 := Grown.cell b1
        have e2 := Grown.cell d0
        obtain ⟨v1, k1⟩ := times_det x0 x1 y0
        obtain ⟨v2, k2⟩ := fold_det v1
        have K1 := hide k1
        have K2 := hide k2
        clear k1 k2
        go_wp2_with fail
        have hne := grown_ne
        refine wp_region_midG 10 (by kernel_rfl) (by decide) (by kernel_rfl) (by kernel_rfl) (by kernel_rfl) (by kernel_rfl) ⟨by kernel_rfl, by kernel_rfl⟩ ?_
        simp only [List.take_succ_cons, List.take_zero, List.drop_succ_cons, List.drop_zero, List.drop_nil]
        repeat (go_big_quiet_step (first | (go_at_call 168; exact Calls.grown (K1.out _)) | (go_at_call 167; exact Calls.grown ((K2.out _).mono (by rintro e w' ⟨h1, rfl⟩; exact ⟨h1, Below.refl _ _⟩))) | fail))
        refine wpQuiet_nil ?_
        rintro w' ⟨⟨V, hV⟩, hw⟩
        replace hw : w' = V := hw
        obtain rfl := hw
        have HRV := hide (hR.out.after hV)
        have HFV := hide (hF.out.after hV)
        have HOV := hide (hO.out.ext hV (Nat.le_of_lt hR.out.lt))
        clear e0 e1 e2 hV hR hF hO
        obtain ⟨_, s0, z0, rfl⟩ := HRV.out.cell (i := j) (by omega)
        have g0 := HRV.out.frozen j
        refine wpOp_by rfl rfl (fun K hK => ?_)
        go_simp
        apply hK
        refine ⟨fun w' => w' = _, rfl, wpQuiet_nil ?_⟩
        rintro w'' rfl
        go_wp2_with fail
        go_roundw
        case rel =>
          exact ⟨j + 1, _, by go_num, by omega, rfl, hide (HRV.out.set (i := j) (by omega) ⟨_, rfl⟩), hide (HFV.out.other (a := ⟨g, j, none⟩) (fun e => HNE.out e.symm) _), hide (HOV.out.set (a := ⟨g, j, none⟩) rfl _)⟩
        case measure => simp [intOf] <;> omega
      · obtain rfl : n = j := by omega
        go_wp2_with fail
        go_ret
        exact ⟨⟨_, rfl⟩, by rw [← HN.out]; exact hR.out, hO.out⟩
end Go.Proofs.Ygctac
