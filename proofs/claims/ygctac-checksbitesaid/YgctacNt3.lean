/-
  ntt.factors.
-/
import Derived.Test.YgctacNt2
import Derived.Test.YgctacMid2
namespace Go.Proofs.Ygctac
open Go.RowKit Cx
set_option linter.unusedVariables false
set_option linter.unusedSimpArgs false

theorem fold_det (z : Int) : ∃ y, ∀ w, Calls Tacg.prog 167 #[.int .u32 z] w fun r w' => r = .returned (.int .u32 y) ∧ w' = w := by
  refine ⟨if 998244353 ≤ z then (z - 998244353) % 4294967296 else z, fun w => ?_⟩
  go_enter Tacg.func167, Tacg.ntmps167
  go_wp2_with fail
  all_goals (rename_i hz; go_ret; exact ⟨rfl, rfl⟩)
theorem times_det (a b x : Int) : ∃ y, ∀ w, Calls Tacg.prog 168 #[.agg #[.int .u32 a, .int .u32 b], .int .u32 x] w fun r w' => r = .returned (.int .u32 y) ∧ Below w.heap.size w w' := by
  refine ⟨(x * a % 4294967296 - IntKind.u64.wrap (IntKind.u64.wrap x * IntKind.u64.wrap b) / 4294967296 % 4294967296 * 998244353 % 4294967296) % 4294967296, fun w => ?_⟩
  go_enter Tacg.func168, Tacg.ntmps168
  go_wp2_with fail
  go_ret
  exact ⟨rfl, (Below.refl _ _).alloc (Nat.le_refl _) _⟩
theorem factorOf_det (z : Int) : ∃ q, ∀ w, Calls Tacg.prog 166 #[.int .u32 z] w fun r w' => r = .returned (.agg #[.int .u32 z, .int .u32 q]) ∧ Below w.heap.size w w' := by
  refine ⟨IntKind.u64.wrap ((IntKind.u64.wrap (IntKind.u64.wrap z * 4294967296)).tdiv 998244353) % 4294967296, fun w => ?_⟩
  go_enter Tacg.func166, Tacg.ntmps166
  go_wp2_with fail
  generalize IntKind.u64.wrap ((IntKind.u64.wrap (IntKind.u64.wrap z * 4294967296)).tdiv 998244353) % 4294967296 = q
  refine bodyPost_ret (results_cellN (by rfl) _ _ _ ⟨w.heap.size, 0, none⟩ (.agg #[.int .u32 z, .int .u32 q]) rfl (cells_fac ?_ ?_)) rfl ⟨rfl, ?_⟩
  · simp [go_sem]
  · simp [go_sem]
  · exact (Below.refl _ _).alloc (Nat.le_refl _) _

theorem fac_new (w : World) (a b : Int) : RowP (w.alloc (.cells #[.int .u32 a, .int .u32 b] 187)) w.heap.size 2 187 IsU32 := by
  refine ⟨_, alloc_last _ _, rfl, fun i hi => ?_⟩
  match i, hi with
  | 0, _ => exact ⟨_, rfl, a, rfl⟩
  | 1, _ => exact ⟨_, rfl, b, rfl⟩

set_option maxRecDepth 100000 in
set_option maxHeartbeats 4000000 in
theorem factors_any (gf M kk c : Nat) (t : TypeId) (z : Int) (hk : kk ≤ 10) (hM : 2 * p2 kk ≤ M) (hc : p2 kk ≤ c) (w : World) (h : RowP w gf M t IsU32) :
    Calls Tacg.prog 177 #[.slice (some ⟨gf, 0, none⟩) (p2 kk) c, .int .u32 z] w fun r w' => r = .returned (.tuple #[]) ∧ RowP w' gf M t IsU32 ∧ Only gf w w' := by
  have hp := p2_le (show kk ≤ 11 by omega)
  have hpos := p2_pos kk
  have hpos' : (0 : Int) < (p2 kk : Int) := by omega
  have HR := hide h
  have HL := hide h.lt
  clear h
  go_enter Tacg.func177, Tacg.ntmps177
  go_wp2_with fail
  refine (factorOf_any _ _).mono ?_
  rintro e w1 ⟨a, b, rfl, hb⟩
  have HR1 := hide (HR.out.after hb)
  have HO1 := hide ((Only.refl gf w).ext hb (Nat.le_of_lt HL.out))
  clear hb HR
  obtain ⟨_, c0, x0, rfl⟩ := HR1.out.cell (i := 0) (by omega)
  obtain ⟨_, c1, x1, rfl⟩ := HR1.out.cell (i := 1) (by omega)
  have f0 := HR1.out.frozen 0
  have f1 := HR1.out.frozen 1
  go_wp2_with fail
  have HR2 := hide ((HR1.out.set (i := 0) (by omega) (v := .int .u32 a) ⟨a, rfl⟩).set (i := 1) (by omega) (v := .int .u32 b) ⟨b, rfl⟩)
  have HO2 := hide ((HO1.out.set (a := ⟨gf, 0, none⟩) rfl (.int .u32 a)).set (a := ⟨gf, 1, none⟩) rfl (.int .u32 b))
  clear HR1 HO1 c0 c1 f0 f1
  go_loopw [1, 4, 5, 6] (fun s1 s4 s5 s6 W1 => ∃ (z : Int) (q : Nat) (W : World), s1 = .int .u32 z ∧ s4 = .int .i64 (p2 q : Nat) ∧ q ≤ kk ∧ W1 = W ∧ Hid (RowP W gf M t IsU32) ∧ Hid (Only gf w W)) (fun _ s4 _ _ _ => p2 kk - (intOf s4).toNat)
  case atStart => exact ⟨z, 0, _, rfl, rfl, Nat.zero_le _, rfl, HR2, HO2⟩
  case round =>
    obtain ⟨z, q, W, rfl, rfl, hq, hw, hR, hO⟩ := hrel
    obtain rfl := hw.symm
    clear hw HR2 HO2
    by_cases cq : q < kk
    · have hlt := p2_lt cq
      have cq' : (p2 q : Int) < (p2 kk : Int) := by omega
      have hle := p2_mono (show q + 1 ≤ kk by omega)
      rw [p2_succ] at hle
      have hq0 := p2_pos q
      go_wp2_with fail
      refine (factorOf_any _ _).mono ?_
      rintro e w2 ⟨fa, fb, rfl, hb⟩
      have HR3 := hide (hR.out.after hb)
      have HO3 := hide (hO.out.ext hb (Nat.le_of_lt hR.out.lt))
      clear hb hR hO
      go_wp2_with fail
      have HR4 := hide (HR3.out.after ((Below.refl _ _).alloc (Nat.le_refl _) (.cells #[.int .u32 fa, .int .u32 fb] 187)))
      have HO4 := hide (HO3.out.ext ((Below.refl _ _).alloc (Nat.le_refl _) (.cells #[.int .u32 fa, .int .u32 fb] 187)) (Nat.le_of_lt HR3.out.lt))
      have HF4 := hide (fac_new w2 fa fb)
      have HNE := hide (Nat.ne_of_gt HR3.out.lt)
      generalize w2.alloc (.cells #[.int .u32 fa, .int .u32 fb] 187) = w4 at *
      generalize w2.heap.size = gb at *
      clear HR3 HO3
      go_loopw [6] (fun s6 W1 => ∃ (j : Nat) (W : World), s6 = .int .i64 j ∧ j ≤ p2 q ∧ W1 = W ∧ Hid (RowP W gf M t IsU32) ∧ Hid (RowP W gb 2 187 IsU32) ∧ Hid (Only gf w W)) (fun s6 _ => p2 q - (intOf s6).toNat)
      case atStart => exact ⟨0, _, rfl, Nat.zero_le _, rfl, HR4, HF4, HO4⟩
      case round =>
        obtain ⟨j, W, rfl, hj, hw, hR, hF, hO⟩ := hrel
        obtain rfl := hw.symm
        clear hw HR4 HF4 HO4
        by_cases cj : j < p2 q
        · have cj' : (j : Int) < (p2 q : Int) := by omega
          have c1 : (j : Int) < (p2 kk : Int) := by omega
          have c2 : (p2 q : Int) + (j : Int) < (p2 kk : Int) := by omega
          obtain ⟨_, b0, x0, rfl⟩ := hF.out.cell (i := 0) (by omega)
          obtain ⟨_, b1, x1, rfl⟩ := hF.out.cell (i := 1) (by omega)
          obtain ⟨_, d0, y0, rfl⟩ := hR.out.cell (i := j * 2) (by omega)
          have e0 := Grown.cell b0
          have e1 := Grown.cell b1
          have e2 := Grown.cell d0
          obtain ⟨v1, k1⟩ := times_det x0 x1 y0
          obtain ⟨v2, k2⟩ := fold_det v1
          obtain ⟨v3, k3⟩ := factorOf_det v2
          have K1 := hide k1
          have K2 := hide k2
          have K3 := hide k3
          clear k1 k2 k3
          go_wp2_with fail
          have hne := grown_ne
          refine wp_region_midG 14 (by kernel_rfl) (by decide) (by kernel_rfl) (by kernel_rfl) (by kernel_rfl) (by kernel_rfl) ⟨by kernel_rfl, by kernel_rfl⟩ ?_
          simp only [List.take_succ_cons, List.take_zero, List.drop_succ_cons, List.drop_zero, List.drop_nil]
          repeat (go_big_quiet_step (first | (go_at_call 168; exact Calls.grown (K1.out _)) | (go_at_call 167; exact Calls.grown ((K2.out _).mono (by rintro e w' ⟨h1, rfl⟩; exact ⟨h1, Below.refl _ _⟩))) | (go_at_call 166; exact Calls.grown (K3.out _)) | fail))
          refine wpQuiet_nil ?_
          rintro w' ⟨⟨V, hV⟩, hw⟩
          replace hw : w' = V := hw
          obtain rfl := hw
          have HRV := hide (hR.out.after hV)
          have HFV := hide (hF.out.after hV)
          have HOV := hide (hO.out.ext hV (Nat.le_of_lt hR.out.lt))
          clear e0 e1 e2 hV hR hF hO
          obtain ⟨_, s0, z0, rfl⟩ := HRV.out.cell (i := (p2 q + j) * 2) (by omega)
          obtain ⟨_, s1, z1, rfl⟩ := HRV.out.cell (i := (p2 q + j) * 2 + 1) (by omega)
          have g0 := HRV.out.frozen ((p2 q + j) * 2)
          have g1 := HRV.out.frozen ((p2 q + j) * 2 + 1)
          refine wpOp_by rfl rfl (fun K hK => ?_)
          go_simp
          apply hK
          refine ⟨fun w' => w' = _, rfl, wpQuiet_nil ?_⟩
          rintro w'' rfl
          go_wp2_with fail
          go_roundw
          case rel =>
            refine ⟨j + 1, _, by go_num, by omega, rfl, hide ((HRV.out.set (i := (p2 q + j) * 2) (by omega) ⟨_, rfl⟩).set (i := (p2 q + j) * 2 + 1) (by omega) ⟨_, rfl⟩), hide ((HFV.out.other (a := ⟨gf, (p2 q + j) * 2, none⟩) (fun e => HNE.out e.symm) _).other (a := ⟨gf, (p2 q + j) * 2 + 1, none⟩) (fun e => HNE.out e.symm) _), hide ((HOV.out.set (a := ⟨gf, (p2 q + j) * 2, none⟩) rfl _).set (a := ⟨gf, (p2 q + j) * 2 + 1, none⟩) rfl _)⟩
          case measure => simp [intOf] <;> omega
        · obtain rfl : j = p2 q := by omega
          go_wp2_with fail
          refine (mulMod_any _ _ _).mono ?_
          rintro e w5 ⟨y, rfl, hw⟩
          obtain rfl := hw.symm
          clear hw
          have e2 : (p2 q : Int) * 2 = (p2 (q + 1) : Int) := by rw [p2_succ]; omega
          go_wp2_with fail
          go_roundw
          case rel => exact ⟨y, q + 1, _, rfl, by first | rfl | go_num, by omega, rfl, hR, hO⟩
          case measure => simp [intOf] <;> omega
    · obtain rfl : q = kk := by omega
      go_wp2_with fail
      go_end0
      exact ⟨rfl, hR.out, hO.out⟩
end Go.Proofs.Ygctac
