/-
  law.StepKeeps.
-/
import Derived.Test.YgctacKm24
namespace Go.Proofs.Ygctac
open Go.RowKit
set_option linter.unusedVariables false
set_option linter.unusedSimpArgs false

theorem bool_neq (w : World) (a b : Bool) : (binOp .neq 4 (.bool a) (.bool b)).run Tacg.prog w = .ok (.bool (a != b)) w := by
  have hu : Tacg.prog.underlying 4 = some .bool := by kernel_rfl
  have key : ∀ d, (Op.equalIn (d + 1) 4 (.bool a) (.bool b)).run Tacg.prog w = .ok (a == b) w := by
    intro d
    simp [Op.equalIn, run_underlying hu]
  have key2 : (Op.equal 4 (.bool a) (.bool b)).run Tacg.prog w = .ok (a == b) w := key 9999
  simp only [binOp]
  simp [key2]
  cases a <;> cases b <;> rfl

theorem wpOp_byG {P : Program} {ops : Array Oper} {Q : Exit → Act → World → Prop} {i : Nat} {o : Oper} {K0 : Act → World → Prop} {a : Act} {w : World} (ho : ops[i]? = some o) (hg : Region.wanted o (yielded ops a.tmps) = true) (h : ∀ K : Act → World → Prop, (∀ a₁ w₁, K0 a₁ w₁ → K a₁ w₁) → o.wp P a w K Q) : wpOp P ops Q i K0 a w := by
  unfold wpOp
  rw [ho]
  simp only [hg, if_true]
  exact Or.inl (h K0 (fun _ _ h => h))
theorem own_stp2 {B : Nat} {W : World} {p : Option Addr} {c : Nat} {n : Nat} {S : Nat → Ent} {G : Nat → Nat} (h : OwnSt B W (.slice p n c) n S G) (hS : SOk n S) : StP W p n c (fun i => cp (S i) (G i)) := by
  rcases h.1 with ⟨h0, rfl⟩ | ⟨sb, h0, h1, C, h2, h3, h4⟩
  · cases h0; exact .inl ⟨rfl, rfl, rfl⟩
  · cases h0
    refine .inr ⟨sb, 0, rfl, Nat.le_refl _, fun i hi => by rw [Nat.zero_add]; exact cell_of h2 (h4 i hi), fun i hi e he => ?_⟩
    cases hSi : S i with
    | none => simp only [hSi, cp, Option.map_none] at he; cases he
    | some e0 =>
      simp only [hSi, cp, Option.map_some] at he
      cases he
      have h5 := hS i hi e0 hSi
      exact ⟨Nat.le_refl _, Nat.le_of_lt h5.1, h5.2, (h.2.1 i hi e0 hSi).2.cells⟩

set_option maxRecDepth 100000 in
set_option maxHeartbeats 4000000 in
theorem stepKeeps_any (eng : Int) (he : 0 ≤ eng) (K : Nat) (hK : K < 256) (xa : Ent) (p q : Option Addr) (n0 c k kc : Nat) (V : Nat → Value) (S : Nat → Ent) (Q : Nat → Int) (hn0 : n0 ≤ 140737488355328) (hk : k < 140737488355328) (w : World) (hs : StV w p n0 c V S) (ho : OuP w q k kc Q) (ha : EntOk w xa)
    (hl : ∀ i, i < n0 → ∀ e, S i = some e → e.l < 140737488355328) :
    Calls Tacg.prog 4 #[.int .u8 eng, .agg #[.slice p n0 c, .slice q k kc], .agg #[.int .u8 K, vOf xa]] w fun r w' => TrueR w.heap.size w r w' := by
  have hb1 : Below w.heap.size w (w.alloc (.cells #[.slice p n0 c, .slice q k kc] 34)) := (Below.refl _ _).alloc (Nat.le_refl _) _
  have hb2 : Below (w.alloc (.cells #[.slice p n0 c, .slice q k kc] 34)).heap.size (w.alloc (.cells #[.slice p n0 c, .slice q k kc] 34)) ((w.alloc (.cells #[.slice p n0 c, .slice q k kc] 34)).alloc (.cells #[.int .u8 K, vOf xa] 36)) := (Below.refl _ _).alloc (Nat.le_refl _) _
  have hb12 := hb1.trans (hb2.mono hb1.size)
  have hx1 : ((w.alloc (.cells #[.slice p n0 c, .slice q k kc] 34)).alloc (.cells #[.int .u8 K, vOf xa] 36)).heap[w.heap.size]? = some (.cells #[.slice p n0 c, .slice q k kc] 34) := by rw [hb2.block _ (by rw [size_al]; omega)]; exact alloc_last _ _
  have hx2 : ((w.alloc (.cells #[.slice p n0 c, .slice q k kc] 34)).alloc (.cells #[.int .u8 K, vOf xa] 36)).heap[w.heap.size + 1]? = some (.cells #[.int .u8 K, vOf xa] 36) := by
    have := alloc_last (w.alloc (.cells #[.slice p n0 c, .slice q k kc] 34)) (.cells #[.int .u8 K, vOf xa] 36)
    rwa [size_al] at this
  have HS2 := hide (hs.below hb12)
  have HO2 := hide (ho.below hb12)
  have HA2 := hide (ha.below hb12)
  have HB2 := hide hb12
  have HX1 := hide hx1
  have HX2 := hide hx2
  have HSO : Hid (SOk (min n0 17) S) := hide (fun i hi e he' => ⟨hl i (by omega) e he', by
    obtain ⟨_, _, _, _, hE⟩ := hs.at (show i < n0 by omega)
    rcases hE with ⟨_, hE⟩ | ⟨a, e0, _, h1, h2⟩
    · exact (hE e he').2.2.1
    · rw [h1] at he'
      cases he'
      exact fun j hj => absurd hj (by omega)⟩)
  obtain ⟨xp, xl, xc, hxv⟩ := vOf_slice xa
  have HXV := hide hxv
  rw [hxv] at HS2 HO2 HA2 HB2 HX1 HX2 ⊢
  clear hs ho ha hb1 hb2 hb12 hx1 hx2 hxv hl
  go_enter Tacg.func4, Tacg.ntmps4
  go_wp2_with fail
  generalize (w.alloc (.cells #[.slice p n0 c, .slice q k kc] 34)).alloc (.cells #[.int .u8 K, .slice xp xl xc] 36) = w2 at *
  -- own
  refine (own_v p n0 c q k kc V S Q hn0 (by omega) w2 HS2.out HO2.out).mono ?_
  rintro e w3 ⟨sv1, uv1, G1, rfl, hS3, hU3, hB3⟩
  obtain ⟨N, hN⟩ : ∃ N, N = min n0 17 := ⟨_, rfl⟩
  have hN17 : N ≤ 17 := by omega
  rw [← hN] at hS3 HSO
  obtain ⟨sp1, sc1, rfl⟩ := ownSt_slice hS3
  obtain ⟨up1, uc1, rfl⟩ := ownOu_slice hU3
  have HNN := hide hN
  have HS3 := hide hS3
  have HU3 := hide hU3
  have hb4 : Below w3.heap.size w3 (w3.alloc (.cells #[.slice sp1 N sc1, .slice up1 k uc1] 34)) := (Below.refl _ _).alloc (Nat.le_refl _) _
  have hb24 := hB3.trans (hb4.mono hB3.size)
  have HA0 := hide (And.intro hB3.size HB2.out.size)
  have HX14 := hide ((hb24.block _ (heap_lt HX1.out)).trans HX1.out)
  have HX24 := hide ((hb24.block _ (heap_lt HX2.out)).trans HX2.out)
  have HS4 := hide (HS2.out.below hb24)
  have HO4 := hide (HO2.out.below hb24)
  have HA4 := hide (HA2.out.below hb24)
  have HB4 := hide (HB2.out.trans (hb24.mono HB2.out.size))
  have HM4 : Hid ((w3.alloc (.cells #[.slice sp1 N sc1, .slice up1 k uc1] 34)).heap[w3.heap.size]? = some (.cells #[.slice sp1 N sc1, .slice up1 k uc1] 34)) := hide (alloc_last _ _)
  have HK34 : Hid (Kp w2.heap.size w3 (w3.alloc (.cells #[.slice sp1 N sc1, .slice up1 k uc1] 34))) := hide (fun b _ h2 => hb4.block b h2)
  have HZ4 : Hid ((w3.alloc (.cells #[.slice sp1 N sc1, .slice up1 k uc1] 34)).heap.size = w3.heap.size + 1) := hide (size_al _ _)
  have HX2LT := hide (heap_lt HX2.out)
  have m0 := cell_of HX14.out (i := 0) rfl
  have m1 := cell_of HX14.out (i := 1) rfl
  clear hB3 hS3 hU3 hb4 hb24 hN HX1 HX2 HS2 HO2 HA2 HB2
  go_wp2_with fail
  generalize w3.alloc (.cells #[.slice sp1 N sc1, .slice up1 k uc1] 34) = w4 at *
  -- before
  refine (own_v p n0 c q k kc V S Q hn0 (by omega) w4 HS4.out HO4.out).mono ?_
  rintro e w5 ⟨sv2, uv2, G2, rfl, hS5, hU5, hB5⟩
  rw [← HNN.out] at hS5
  obtain ⟨sp2, sc2, rfl⟩ := ownSt_slice hS5
  obtain ⟨up2, uc2, rfl⟩ := ownOu_slice hU5
  -- ON
  have HS5 := hide hS5
  have HU5 := hide hU5
  have hb6 : Below w5.heap.size w5 (w5.alloc (.cells #[.slice sp2 N sc2, .slice up2 k uc2] 34)) := (Below.refl _ _).alloc (Nat.le_refl _) _
  have hb46 := hB5.trans (hb6.mono hB5.size)
  have HS6 := hide (hS5.after hb6)
  have HU6 := hide (hU5.after hb6)
  have HBB6 : Hid ((w5.alloc (.cells #[.slice sp2 N sc2, .slice up2 k uc2] 34)).heap[w5.heap.size]? = some (.cells #[.slice sp2 N sc2, .slice up2 k uc2] 34)) := hide (alloc_last _ _)
  have HX26 := hide ((hb46.block _ (heap_lt HX24.out)).trans HX24.out)
  have HA6 := hide (HA4.out.below hb46)
  have HB6 := hide (HB4.out.trans (hb46.mono HB4.out.size))
  have HM6 := hide ((hb46.block _ (heap_lt HM4.out)).trans HM4.out)
  have HK36 : Hid (Kp w2.heap.size w3 (w5.alloc (.cells #[.slice sp2 N sc2, .slice up2 k uc2] 34))) := hide (HK34.out.below (by have := HZ4.out; omega) hb46)
  have HZ6 : Hid (w4.heap.size ≤ w5.heap.size ∧ (w5.alloc (.cells #[.slice sp2 N sc2, .slice up2 k uc2] 34)).heap.size = w5.heap.size + 1) := hide ⟨hB5.size, size_al _ _⟩
  have x1 := cell_of HX26.out (i := 1) rfl
  clear hB5 hS5 hU5 hb6 hb46 HS4 HO4 HA4 HB4 HM4 HK34 HX14 HX24 HS5 HU5 m0 m1
  go_wp2_with fail
  generalize w5.alloc (.cells #[.slice sp2 N sc2, .slice up2 k uc2] 34) = w6 at *
  generalize w5.heap.size = bb at *
  -- the argument
  have HNA := hide (ownNat_any xa w6 HA6.out)
  rw [HXV.out] at HNA
  refine HNA.out.mono ?_
  rintro e w7 ⟨rfl, hC7, hB7⟩
  obtain ⟨ya, hya⟩ : ∃ ya, ya = cp xa w6.heap.size := ⟨_, rfl⟩
  rw [← hya]
  obtain ⟨yp, yl, yc, hyv⟩ := vOf_slice ya
  have HYV := hide hyv
  rw [hyv]
  have hx27 := (hB7.block _ (heap_lt HX26.out)).trans HX26.out
  have hmem : ∀ (b : Nat), b ≠ w.heap.size + 1 → b < w6.heap.size → (w7.setCell ⟨w.heap.size + 1, 1, none⟩ (.slice yp yl yc)).heap[b]? = w6.heap[b]? := fun b h1 h2 => by
    rw [Below.heap_setCell _ _ _ _ h1]; exact hB7.block b h2
  have HX28 : Hid ((w7.setCell ⟨w.heap.size + 1, 1, none⟩ (.slice yp yl yc)).heap[w.heap.size + 1]? = some (.cells #[.int .u8 K, .slice yp yl yc] 36)) := hide (heap_setCell_same w7 (w.heap.size + 1) 1 _ 36 _ hx27)
  have hsz8 : (w7.setCell ⟨w.heap.size + 1, 1, none⟩ (.slice yp yl yc)).heap.size = w7.heap.size := size_set _ _ _
  have hx2a : w.heap.size + 1 < w2.heap.size := HX2LT.out
  have HKA : Hid (Kp w2.heap.size w3 (w7.setCell ⟨w.heap.size + 1, 1, none⟩ (.slice yp yl yc))) := hide (fun b h1 h2 => (hmem b (by omega) (by have := HZ6.out; have := HZ4.out; omega)).trans (HK36.out b h1 h2))
  have HMC : Hid ((w7.setCell ⟨w.heap.size + 1, 1, none⟩ (.slice yp yl yc)).heap[w3.heap.size]? = some (.cells #[.slice sp1 N sc1, .slice up1 k uc1] 34)) := hide ((hmem _ (by have := HA0.out; omega) (heap_lt HM6.out)).trans HM6.out)
  have HMO := hide (own_mo HS3.out HU3.out HSO.out (show w3.heap.size ≤ w4.heap.size by have := HZ4.out; omega) HKA.out HMC.out HA0.out.1 (by have := HZ4.out; omega))
  have HKB : Hid (Kp w4.heap.size w6 (w7.setCell ⟨w.heap.size + 1, 1, none⟩ (.slice yp yl yc))) := hide (fun b h1 h2 => hmem b (by have := HA0.out; have := HZ4.out; omega) h2)
  have HAR : Hid (ArgO (w7.setCell ⟨w.heap.size + 1, 1, none⟩ (.slice yp yl yc)) (ZZ w2.heap.size w4.heap.size (w7.setCell ⟨w.heap.size + 1, 1, none⟩ (.slice yp yl yc)).heap.size) ya) := hide (by
    intro e he
    rw [hya] at he
    cases hxa : xa with
    | none => rw [hxa] at he; cases he
    | some e0 =>
      rw [hxa] at he
      cases he
      have hok := HA6.out e0 hxa
      obtain ⟨D, d1, d2⟩ := hC7 e0 hxa
      have hlt := heap_lt d1
      refine ⟨?_, rfl, rfl, hok.2.1, hok.2.2.1, D, ?_, d2⟩
      · rintro (h | h)
        · have := HZ6.out; simp only at h; omega
        · rw [hsz8] at h; simp only at h; omega
      · rw [Below.heap_setCell _ _ _ _ (type_ne d1 hx27 (by decide))]; exact d1)
  have HB8 : Hid (Below w.heap.size w (w7.setCell ⟨w.heap.size + 1, 1, none⟩ (.slice yp yl yc))) := hide ((HB6.out.trans (hB7.mono HB6.out.size)).setCell (p := ⟨w.heap.size + 1, 1, none⟩) (by simp only; omega) _)
  have HSZ : Hid (w6.heap.size ≤ (w7.setCell ⟨w.heap.size + 1, 1, none⟩ (.slice yp yl yc)).heap.size) := hide (by rw [hsz8]; exact hB7.size)
  have y1 := cell_of hx27 (i := 1) rfl
  have fy1 := frozen_of hx27 1
  clear hC7 hB7 hya hyv hx27 hmem hsz8 HNA x1 HX26 HA6 HB6 HM6 HK36 HKA HMC HS3 HU3
  go_wp2_with fail
  generalize w7.setCell ⟨w.heap.size + 1, 1, none⟩ (.slice yp yl yc) = w8 at *
  have HB8LT : Hid (w2.heap.size ≤ w8.heap.size) := hide (by have := HSZ.out; have := HZ6.out; have := HZ4.out; have := HA0.out; omega)
  have hZW : w.heap.size ≤ w4.heap.size := by have := HA0.out; have := HZ4.out; omega
  have HZW := hide hZW
  clear hZW
  obtain ⟨Z, hZ⟩ : ∃ Z, Z = ZZ w2.heap.size w4.heap.size w8.heap.size := ⟨_, rfl⟩
  rw [← hZ] at HMO HAR
  have HZZ := hide hZ
  clear hZ
  generalize w3.heap.size = mb at *
  obtain ⟨S1, hS1⟩ : ∃ S1, S1 = fun i => cp (S i) (G1 i) := ⟨_, rfl⟩
  rw [← hS1] at HMO
  have HS1 := hide hS1
  clear hS1
  have HSM : Hid (∀ i, i < N → ∀ e, S1 i = some e → e.l < 140737488355328) := hide (by
    intro i hi e he
    rw [HS1.out] at he
    cases hSi : S i with
    | none => simp only [hSi, cp, Option.map_none] at he; cases he
    | some e0 => simp only [hSi, cp, Option.map_some] at he; cases he; exact (HSO.out i hi e0 hSi).1)
  cases hC : (decide (N ≤ 16) && allN N S1)
  · have hc8 := check_mo HMO.out (by omega)
    rw [hC] at hc8
    have HC8 := hide hc8
    have hcomm : (allN N S1 && decide (N ≤ 16)) = false := by rw [Bool.and_comm]; exact hC
    have HC := hide hC
    clear hc8 hC
    refine HC8.out.mono ?_
    rintro e w9 ⟨rfl, hb9⟩
    have HMO9 := hide (HMO.out.after hb9)
    have hck9 := checked_any mb sp1 N sc1 S1 (.slice up1 k uc1) (by omega) w9 HMO9.out.mac HMO9.out.st.stp
    rw [hcomm] at hck9
    have HCK9 := hide hck9
    have HK9 := hide (KZ.of (Z := Z) hb9)
    have HX29 := hide ((hb9.block _ (heap_lt HX28.out)).trans HX28.out)
    have HB9 := hide (HB8.out.trans (hb9.mono HB8.out.size))
    have HAR9 := hide (HAR.out.after hb9)
    have HKB9 := hide (HKB.out.below HSZ.out hb9)
    have HSZ9 := hide (Nat.le_trans HSZ.out hb9.size)
    have HSW9 := hide hb9.size
    clear hb9 hck9 hcomm HC8 HMO HX28 HB8 HAR HKB y1 fy1
    go_wp2_with fail
    refine HCK9.out.mono ?_
    rintro e w' ⟨rfl, hw⟩
    obtain rfl := hw.symm
    clear hw HCK9
    have hbn := fun w => bool_neq w false false
    go_wp2_with (first | (go_at_call_of 21 (Value.pointer none); refine (check_nil _).mono ?_; rintro e w' ⟨rfl, hw⟩; obtain rfl := hw.symm; clear hw))
    have hc9 := check_mo HMO9.out (by omega)
    rw [HC.out] at hc9
    refine hc9.mono ?_
    rintro e w10 ⟨rfl, hb10⟩
    have HMO10 := hide (HMO9.out.after hb10)
    have HX210 := hide ((hb10.block _ (heap_lt HX29.out)).trans HX29.out)
    have HB10 := hide (HB9.out.trans (hb10.mono HB9.out.size))
    have HAR10 := hide (HAR9.out.after hb10)
    have HKB10 := hide (HKB9.out.below HSZ9.out hb10)
    have HSZ10 := hide (Nat.le_trans HSZ9.out hb10.size)
    have HSW10 := hide (Nat.le_trans HSW9.out hb10.size)
    have z0 := cell_of HX210.out (i := 0) rfl
    have z1 := cell_of HX210.out (i := 1) rfl
    clear hc9 hb10 HMO9 HX29 HB9 HAR9 HKB9 HSZ9 HSW9 HK9 hbn
    go_wp2_with fail
    have hcb : chkB N S1 = false := by
      refine chkB_false (fun hh => ?_)
      have := HC.out
      rw [hh.2.1] at this
      simp [hh.1] at this
    refine (step_refused eng K (by omega) mb sp1 N sc1 S1 (.slice up1 k uc1) (.slice yp yl yc) (by omega) w10 HMO10.out.mac HMO10.out.st.stp HMO10.out.st.plain hcb).mono ?_
    rintro e w11 ⟨rfl, hb11⟩
    have HMO11 := hide (HMO10.out.after hb11)
    have HX211 := hide ((hb11.block _ (heap_lt HX210.out)).trans HX210.out)
    have HB11 := hide (HB10.out.trans (hb11.mono HB10.out.size))
    have HAR11 := hide (HAR10.out.after hb11)
    have HKB11 := hide (HKB10.out.below HSZ10.out hb11)
    have HSZ11 := hide (Nat.le_trans HSZ10.out hb11.size)
    clear hb11 hcb HMO10 HX210 HB10 HAR10 HKB10 HSZ10 z0 z1
    have HS11 := hide (HS6.out.kp HKB11.out)
    have HU11 := hide (HU6.out.kp HKB11.out)
    have HBB11 := hide ((HKB11.out bb (by have := HZ6.out; omega) (heap_lt HBB6.out)).trans HBB6.out)
    go_wp2_with fail
    refine (sameMachine_any mb bb sp1 sp2 up1 up2 N sc1 sc2 k uc1 uc2 S1 (fun i => cp (S i) (G2 i)) Q (by omega) (by omega) w11 HMO11.out.mac ⟨cell_of HBB11.out (i := 0) rfl, cell_of HBB11.out (i := 1) rfl⟩ HMO11.out.st.stp (own_stp2 HS11.out HSO.out) HMO11.out.ou.oup (ownOu_oup HU11.out) (fun i hi => by rw [HS1.out]; exact SameV.cps _ _ _)).mono ?_
    rintro e w12 ⟨rfl, d12, hw12⟩
    have hb12 : Below w11.heap.size w11 w12 := by rw [hw12]; exact below_dN (Below.refl _ _) d12
    have HX212 := hide ((hb12.block _ (heap_lt HX211.out)).trans HX211.out)
    have HB12 := hide (HB11.out.trans (hb12.mono HB11.out.size))
    have HAR12 := hide (HAR11.out.after hb12)
    have HKB12 := hide (HKB11.out.below HSZ11.out hb12)
    clear hw12 hb12 HMO11 HX211 HB11 HAR11 HKB11 HS11 HU11 HBB11 HSZ11
    have HS12 := hide (HS6.out.kp HKB12.out)
    have HU12 := hide (HU6.out.kp HKB12.out)
    have HBB12 := hide ((HKB12.out bb (by have := HZ6.out; omega) (heap_lt HBB6.out)).trans HBB6.out)
    have b0 := cell_of HBB12.out (i := 0) rfl
    have b1 := cell_of HBB12.out (i := 1) rfl
    have z0 := cell_of HX212.out (i := 0) rfl
    have z1 := cell_of HX212.out (i := 1) rfl
    have HSH : Hid (Calls Tacg.prog 27 #[.int .u8 eng, .agg #[.slice sp2 N sc2, .slice up2 k uc2], .agg #[.int .u8 K, .slice yp yl yc]] w12 fun r w' => TrueR w.heap.size w12 r w') := hide (by
      rw [← HYV.out]
      by_cases hn2 : N < 2
      · refine (shared_small eng K hK ya sp2 up2 N sc2 k uc2 hn2 w12 HAR12.out.ok).mono ?_
        rintro r w' ⟨h1, h2⟩
        exact ⟨h1, h2.mono HB12.out.size⟩
      · obtain ⟨sb, hsb, hbm⟩ := own_bm HS12.out HU12.out HSO.out (by omega)
        exact shared_any eng K hK ya sp2 up2 N sc2 k uc2 _ Q sb w.heap.size hN17 (by omega) w12 hbm HAR12.out.ok HB12.out.size (Nat.le_trans HZW.out hsb))
    go_wp2_with fail
    refine HSH.out.mono ?_
    rintro e w13 ⟨rfl, hb13⟩
    have HB13 := hide (HB12.out.trans hb13)
    clear hb13
    go_wp2_with fail
    go_ret
    exact ⟨rfl, HB13.out⟩
  · have hc8 := check_mo HMO.out (by omega)
    rw [hC] at hc8
    have HC8 := hide hc8
    have hcomm : (allN N S1 && decide (N ≤ 16)) = true := by rw [Bool.and_comm]; exact hC
    have HC := hide hC
    clear hc8 hC
    refine HC8.out.mono ?_
    rintro e w9 ⟨rfl, hb9⟩
    have HMO9 := hide (HMO.out.after hb9)
    have hck9 := checked_any mb sp1 N sc1 S1 (.slice up1 k uc1) (by omega) w9 HMO9.out.mac HMO9.out.st.stp
    rw [hcomm] at hck9
    have HCK9 := hide hck9
    have HK9 := hide (KZ.of (Z := Z) hb9)
    have HX29 := hide ((hb9.block _ (heap_lt HX28.out)).trans HX28.out)
    have HB9 := hide (HB8.out.trans (hb9.mono HB8.out.size))
    have HAR9 := hide (HAR.out.after hb9)
    have HKB9 := hide (HKB.out.below HSZ.out hb9)
    have HSZ9 := hide (Nat.le_trans HSZ.out hb9.size)
    have HSW9 := hide hb9.size
    clear hb9 hck9 hcomm HC8 HMO HX28 HB8 HAR HKB y1 fy1
    go_wp2_with fail
    refine HCK9.out.mono ?_
    rintro e w' ⟨rfl, hw⟩
    obtain rfl := hw.symm
    clear hw HCK9
    have hbn := fun w => bool_neq w true true
    go_wp2_with (first | (go_at_call_of 21 (Value.pointer none); refine (check_nil _).mono ?_; rintro e w' ⟨rfl, hw⟩; obtain rfl := hw.symm; clear hw))
    have hc9 := check_mo HMO9.out (by omega)
    rw [HC.out] at hc9
    refine hc9.mono ?_
    rintro e w10 ⟨rfl, hb10⟩
    have HMO10 := hide (HMO9.out.after hb10)
    have HX210 := hide ((hb10.block _ (heap_lt HX29.out)).trans HX29.out)
    have HB10 := hide (HB9.out.trans (hb10.mono HB9.out.size))
    have HAR10 := hide (HAR9.out.after hb10)
    have HKB10 := hide (HKB9.out.below HSZ9.out hb10)
    have HSZ10 := hide (Nat.le_trans HSZ9.out hb10.size)
    have HSW10 := hide (Nat.le_trans HSW9.out hb10.size)
    have z0 := cell_of HX210.out (i := 0) rfl
    have z1 := cell_of HX210.out (i := 1) rfl
    clear hc9 hb10 HMO9 HX29 HB9 HAR9 HKB9 HSZ9 HSW9 HK9 hbn
    go_wp2_with fail
    have hcc : N ≤ 16 ∧ allN N S1 = true := by have := HC.out; simpa using this
    have hst := step_good Z mb eng K he (by omega) ya _ _ N S1 k Q w10 HMO10.out hcc.1 hcc.2 (by omega) HAR10.out.ok HSM.out
    rw [HYV.out] at hst
    refine hst.mono ?_
    rintro e w11 ⟨rfl, v', u', n', S', k', Q', hM11, hn', hA', hk1, hk2, hQ, hK11⟩
    obtain ⟨p', c', rfl⟩ := hM11.st.row.slice
    obtain ⟨q', kc', rfl⟩ := hM11.ou.row.slice
    have HMO11 := hide hM11
    have HX211 : Hid (w11.heap[w.heap.size + 1]? = some (.cells #[.int .u8 K, .slice yp yl yc] 36)) := hide ((hK11.block _ (heap_lt HX210.out) (by rw [HZZ.out]; have := HX2LT.out; have := HSW10.out; have := heap_lt HX210.out; have := HA0.out; have := HB8LT.out; rintro (h | h) <;> omega)).trans HX210.out)
    have HB11 : Hid (Below w.heap.size w w11) := hide (HB10.out.trans ⟨hK11.os, hK11.tape, hK11.output, hK11.size, fun b hb => hK11.block b (Nat.lt_of_lt_of_le hb HB10.out.size) (by rw [HZZ.out]; have := HA0.out; have := HB8LT.out; rintro (h | h) <;> omega)⟩)
    have HAR11 := hide (HAR10.out.kz hK11)
    have HKB11 : Hid (Kp w4.heap.size w6 w11) := hide (by rw [HZZ.out] at hK11; exact HKB10.out.kz HSZ10.out HSZ.out hK11)
    have HSZ11 := hide (Nat.le_trans HSZ10.out hK11.size)
    have HS1011 := hide hK11.size
    have HQ := hide hQ
    have HA' := hide hA'
    clear hcc hst hM11 hK11 hQ hA' HMO10 HX210 HB10 HAR10 HKB10 HSZ10 z0 z1
    have HU11 := hide (HU6.out.kp HKB11.out)
    have HBB11 := hide ((HKB11.out bb (by have := HZ6.out; omega) (heap_lt HBB6.out)).trans HBB6.out)
    have b1 := cell_of HBB11.out (i := 1) rfl
    have o1 := cell_of HMO11.out.cell (i := 1) rfl
    go_wp2_with fail
    have hkc : k' ≤ kc' := by
      rcases HMO11.out.ou.row with ⟨h0, h1⟩ | ⟨g, cc, C, h0, h1, _⟩
      · omega
      · cases h0; exact h1
    have tk1 : ¬ ((k' : Int) < (k : Int)) := by omega
    have tk2 : ¬ ((k : Int) + 1 < (k' : Int)) := by omega
    have tk3 : (k : Int) ≤ (kc' : Int) := by omega
    have hoq : OuP w11 q' k k Q := by
      rcases HMO11.out.ou.row with ⟨h0, h1⟩ | ⟨g, cc, C, h0, h1, h2, h3, h4⟩
      · cases h0
        exact .inl ⟨rfl, by omega, by omega⟩
      · cases h0
        exact .inr ⟨g, 0, rfl, Nat.le_refl _, fun i hi => by
          rw [Nat.zero_add, cell_of h2 (h4 i (by omega))]
          show some (Value.int .i8 (Q' i)) = _
          rw [HQ.out i hi]⟩
    have HCKG : Hid (∀ nn : Grown w11, Calls Tacg.prog 21 #[.pointer (some ⟨mb, 0, none⟩)] nn.w fun r w' => r = .returned (.bool true) ∧ Below nn.w.heap.size nn.w w') := hide (fun nn => by
      have := check_mo (HMO11.out.after nn.h) (by omega)
      rw [show (decide (n' ≤ 16) && allN n' S') = true by simp [hn', HA'.out]] at this
      exact this)
    have HSOG : Hid (∀ nn : Grown w11, Calls Tacg.prog 25 #[.slice q' k k, .slice up2 k uc2] nn.w fun r w' => r = .returned (.bool true) ∧ Below nn.w.heap.size nn.w w') := hide (fun nn => (sameOut_any q' up2 k k uc2 Q (by omega) nn.w (hoq.below nn.h) ((ownOu_oup HU11.out).below nn.h)).mono (by rintro r w' ⟨h1, d, rfl⟩; exact ⟨h1, below_dN (Below.refl _ _) d⟩))
    have o1g := Grown.cell o1
    have b1g := Grown.cell b1
    clear hoq
    have hne := grown_ne
    refine wp_region_midG 30 (by kernel_rfl) (by decide) (by kernel_rfl) (by kernel_rfl) (by kernel_rfl) (by kernel_rfl) ⟨by kernel_rfl, by kernel_rfl⟩ ?_
    simp only [List.take_succ_cons, List.take_zero, List.drop_succ_cons, List.drop_zero, List.drop_nil]
    repeat (go_big_quiet_step (first | (go_at_call 21; exact Calls.grown (HCKG.out _)) | (go_at_call 25; exact Calls.grown (HSOG.out _)) | fail))
    refine wpQuiet_nil ?_
    rintro w' ⟨⟨V, hV⟩, hw⟩
    replace hw : w' = V := hw
    obtain rfl := hw
    have hal := alone_any Z mb ya _ _ n' S' k' Q' w' (HMO11.out.after hV) hn' (by omega) (by omega) (HAR11.out.after hV)
    rw [HYV.out] at hal
    have HAL := hide hal
    have HX2V := hide ((hV.block _ (heap_lt HX211.out)).trans HX211.out)
    have HBV := hide (HB11.out.trans (hV.mono HB11.out.size))
    have HARV := hide (HAR11.out.after hV)
    have HKBV := hide (HKB11.out.below HSZ11.out hV)
    have HSZV := hide (Nat.le_trans HSZ11.out hV.size)
    have HSWV : Hid (w8.heap.size ≤ w'.heap.size) := hide (Nat.le_trans (Nat.le_trans HSW10.out HS1011.out) hV.size)
    clear hal hV HMO11 HX211 HB11 HAR11 HKB11 HSZ11 HU11 HBB11 o1g b1g HCKG HSOG o1 b1
    refine wpOp_byG rfl rfl (fun KK hKK => ?_)
    go_simp
    refine HAL.out.mono ?_
    rintro e w12 ⟨rfl, hK12⟩
    have HX212 : Hid (w12.heap[w.heap.size + 1]? = some (.cells #[.int .u8 K, .slice yp yl yc] 36)) := hide ((hK12.block _ (heap_lt HX2V.out) (by rw [HZZ.out]; have := HX2LT.out; have := HA0.out; have := HB8LT.out; rintro (h | h) <;> omega)).trans HX2V.out)
    have HB12 : Hid (Below w.heap.size w w12) := hide (HBV.out.trans ⟨hK12.os, hK12.tape, hK12.output, hK12.size, fun b hb => hK12.block b (Nat.lt_of_lt_of_le hb HBV.out.size) (by rw [HZZ.out]; have := HA0.out; have := HB8LT.out; rintro (h | h) <;> omega)⟩)
    have HAR12 := hide (HARV.out.kz hK12)
    have HKB12 : Hid (Kp w4.heap.size w6 w12) := hide (by rw [HZZ.out] at hK12; exact HKBV.out.kz HSZV.out HSZ.out hK12)
    clear hK12 HAL HX2V HBV HARV HKBV HSZV HSWV
    apply hKK
    refine ⟨fun w' => w' = _, rfl, ?_⟩
    clear hKK
    repeat (go_big_quiet_step (fail))
    refine wpQuiet_nil ?_
    rintro w'' hw''
    obtain rfl := hw''.symm
    clear hw''
    have HS12 := hide (HS6.out.kp HKB12.out)
    have HU12 := hide (HU6.out.kp HKB12.out)
    have HBB12 := hide ((HKB12.out bb (by have := HZ6.out; omega) (heap_lt HBB6.out)).trans HBB6.out)
    have b0 := cell_of HBB12.out (i := 0) rfl
    have b1 := cell_of HBB12.out (i := 1) rfl
    have z0 := cell_of HX212.out (i := 0) rfl
    have z1 := cell_of HX212.out (i := 1) rfl
    have HSH : Hid (Calls Tacg.prog 27 #[.int .u8 eng, .agg #[.slice sp2 N sc2, .slice up2 k uc2], .agg #[.int .u8 K, .slice yp yl yc]] w12 fun r w' => TrueR w.heap.size w12 r w') := hide (by
      rw [← HYV.out]
      by_cases hn2 : N < 2
      · refine (shared_small eng K hK ya sp2 up2 N sc2 k uc2 hn2 w12 HAR12.out.ok).mono ?_
        rintro r w' ⟨h1, h2⟩
        exact ⟨h1, h2.mono HB12.out.size⟩
      · obtain ⟨sb, hsb, hbm⟩ := own_bm HS12.out HU12.out HSO.out (by omega)
        exact shared_any eng K hK ya sp2 up2 N sc2 k uc2 _ Q sb w.heap.size hN17 (by omega) w12 hbm HAR12.out.ok HB12.out.size (Nat.le_trans HZW.out hsb))
    go_wp2_with fail
    refine HSH.out.mono ?_
    rintro e w13 ⟨rfl, hb13⟩
    have HB13 := hide (HB12.out.trans hb13)
    clear hb13
    go_wp2_with fail
    go_ret
    exact ⟨rfl, HB13.out⟩
end Go.Proofs.Ygctac
