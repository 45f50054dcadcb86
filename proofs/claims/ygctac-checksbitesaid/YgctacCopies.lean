/-
  law.Copies.
-/
import Derived.Test.YgctacCx7
namespace Go.Proofs.Ygctac
open Go.RowKit
set_option linter.unusedVariables false
set_option linter.unusedSimpArgs false

/-- What the walk keeps: the argument, its copy, the number, its copy. -/
structure CopyKeep (w0 w : World) (a u x y : Value) (g n T : Nat) (f : Nat → Int) : Prop where
  da : Dig w a n f
  du : Dig w u n f
  nx : NatO w x g T f
  dy : Dig w y T f
  bel : Below w0.heap.size w0 w
theorem CopyKeep.below {w0 w w' : World} {a u x y : Value} {g n T : Nat} {f : Nat → Int} (h : CopyKeep w0 w a u x y g n T f) (hb : Below w.heap.size w w') : CopyKeep w0 w' a u x y g n T f :=
  ⟨h.da.below hb, h.du.below hb, h.nx.below hb (Nat.le_refl _), h.dy.below hb, belowTr h.bel hb⟩
theorem CopyKeep.drewN {w0 w w' : World} {a u x y : Value} {g n T d : Nat} {f : Nat → Int} (h : CopyKeep w0 w a u x y g n T f) (hw : w' = w.drewN d) : CopyKeep w0 w' a u x y g n T f :=
  h.below (by rw [hw]; exact below_dN (Below.refl _ _) _)

set_option maxRecDepth 100000 in
set_option maxHeartbeats 4000000 in
theorem copies_any {v : Value} {n : Nat} {f : Nat → Int} (hn : n ≤ 140737488355328) (hf : ∀ i, i < n → 0 ≤ f i ∧ f i < 256) (k : Nat) (hk : k < 256) (i : Nat) (hi1 : i < 65536) (w : World) (h : Dig w v n f) :
    Calls Tacg.prog 7 #[v, .int .u8 k, .int .u16 i] w fun r w' => r = .returned (.bool true) ∧ Below w.heap.size w w' := by
  obtain ⟨p, m, c, w1, hr, hD, hB⟩ := append_dig 22 22 Tacg.underlying22 hn w h
  have HR := hide hr
  have HF := hide hf
  have hT : top f (min n 1024) ≤ n := by have := top_le f (min n 1024); omega
  have HFT := hide (show ∀ i, i < top f (min n 1024) → 0 ≤ f i ∧ f i < 256 from fun i hi => hf i (by omega))
  have i0 : (0 : Int) ≤ (i : Int) := by omega
  have i1 : (i : Int) < 65536 := by omega
  have HD1 := hide hD
  have HA1 := hide (h.below hB)
  have HB1 := hide hB
  clear hr hf h hD hB
  go_enter Tacg.func7, Tacg.ntmps7
  go_wp2_with (refine wpList_append_run rfl _ _ 22 rfl rfl rfl HR.out ?_)
  refine (take_dig hn w1 HA1.out).mono ?_
  rintro e w2 ⟨x, rfl, hx, hB2⟩
  generalize hTT : top f (min n 1024) = T at *
  obtain ⟨p2, m2, c2, w3, hr2, hy, hB3⟩ := append_dig 23 23 Tacg.underlying23 (by omega) w2 hx.dig
  have HR2 := hide hr2
  have B23 := belowTr hB2 hB3
  have K3 : Hid (CopyKeep w w3 v (.slice p m c) x (.slice p2 m2 c2) w1.heap.size n T f) := hide ⟨(HA1.out.below hB2).below hB3, (HD1.out.below hB2).below hB3, hx.below hB3 (Nat.le_refl _), hy, belowTr HB1.out B23⟩
  clear hr2 hy hx hB2 hB3 B23 HD1 HA1 HB1 HR
  go_wp2_with (refine wpList_append_run rfl _ _ 23 rfl rfl rfl HR2.out ?_)
  clear HR2
  refine (take_dig hn w3 K3.out.du).mono ?_
  rintro e w4 ⟨f1, rfl, hf1, hB4⟩
  have H1 := hide (And.intro hf1 hB4)
  clear hf1 hB4
  go_wp2_with fail
  refine (scribble_any i i0 i1 w4 H1.out.1).mono ?_
  rintro e w5 ⟨rfl, hB5⟩
  have K5 := hide (K3.out.below (H1.out.2.trans hB5))
  clear K3 H1 hB5
  go_wp2_with fail
  refine (sameDigits_any hn w5 K5.out.du K5.out.da).mono ?_
  rintro e w6 ⟨rfl, d6, hw⟩
  have K6 := hide (K5.out.drewN hw)
  clear K5 hw
  go_wp2_with fail
  refine (take_dig hn w6 K6.out.du).mono ?_
  rintro e w7 ⟨f2, rfl, hf2, hB7⟩
  rw [hTT] at hf2
  have K7 := hide (K6.out.below hB7)
  have H7 := hide hf2
  clear K6 hf2 hB7
  go_wp2_with fail
  refine (sameNat_any w7 H7.out K7.out.nx).mono ?_
  rintro e w8 ⟨rfl, d8, hw⟩
  have K8 := hide (K7.out.drewN hw)
  clear K7 H7 hw
  go_wp2_with fail
  refine (addNil HFT.out w8 K8.out.nx).mono ?_
  rintro e w9 ⟨f3, rfl, hf3, hB9⟩
  have H9 := hide (And.intro hf3 hB9)
  clear hf3 hB9
  go_wp2_with fail
  refine (scribble_any i i0 i1 w9 H9.out.1).mono ?_
  rintro e w10 ⟨rfl, hB10⟩
  have K10 := hide (K8.out.below (H9.out.2.trans hB10))
  clear K8 H9 hB10
  go_wp2_with fail
  refine (sameDigits_any (by omega) w10 K10.out.nx.dig K10.out.dy).mono ?_
  rintro e w11 ⟨rfl, d11, hw⟩
  have K11 := hide (K10.out.drewN hw)
  clear K10 hw
  go_wp2_with fail
  refine (addNil HFT.out w11 K11.out.nx).mono ?_
  rintro e w12 ⟨f4, rfl, hf4, hB12⟩
  have K12 := hide (K11.out.below hB12)
  have H12 := hide hf4
  clear K11 hf4 hB12
  go_wp2_with fail
  refine (sameDigits_any (by omega) w12 H12.out.dig K12.out.dy).mono ?_
  rintro e w13 ⟨rfl, d13, hw⟩
  have K13 := hide (K12.out.drewN hw)
  clear K12 H12 hw
  go_wp2_with fail
  refine (subNil HFT.out w13 K13.out.nx).mono ?_
  rintro e w14 ⟨f5, rfl, hf5, hB14⟩
  have H14 := hide (And.intro hf5 hB14)
  clear hf5 hB14
  go_wp2_with fail
  refine (scribble_any i i0 i1 w14 H14.out.1).mono ?_
  rintro e w15 ⟨rfl, hB15⟩
  have K15 := hide (K13.out.below (H14.out.2.trans hB15))
  clear K13 H14 hB15
  go_wp2_with fail
  refine (subNil HFT.out w15 K15.out.nx).mono ?_
  rintro e w16 ⟨f6, rfl, hf6, hB16⟩
  have K16 := hide (K15.out.below hB16)
  have H16 := hide hf6
  clear K15 hf6 hB16
  go_wp2_with fail
  refine (sameDigits_any (by omega) w16 K16.out.nx.dig K16.out.dy).mono ?_
  rintro e w17 ⟨rfl, d17, hw⟩
  have K17 := hide (K16.out.drewN hw)
  have H17 : Hid (Dig w17 f6 T f) := hide (by rw [hw]; exact H16.out.dig.below (below_dN (Below.refl _ _) _))
  clear K16 H16 hw
  go_wp2_with fail
  refine (sameDigits_any (by omega) w17 H17.out K17.out.dy).mono ?_
  rintro e w18 ⟨rfl, d18, hw⟩
  have K18 := hide (K17.out.drewN hw)
  clear K17 H17 hw
  go_wp2_with fail
  refine (Cx.copiedVectors_any hn HF.out k hk i hi1 w18 K18.out.da).mono ?_
  rintro e w19 ⟨rfl, hB19⟩
  have K19 := hide (K18.out.below hB19)
  clear K18 hB19
  go_wp2_with fail
  refine (copiedRun_any hn i i0 i1 w19 K19.out.da).mono ?_
  rintro e w20 ⟨rfl, hB20⟩
  have K20 := hide (K19.out.below hB20)
  clear K19 hB20
  go_wp2_with fail
  go_ret
  exact ⟨rfl, K20.out.bel⟩
end Go.Proofs.Ygctac
