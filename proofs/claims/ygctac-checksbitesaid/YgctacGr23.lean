/-
  law.biteMachine whatever the hurt; law.ChecksBite.
-/
import Derived.Test.YgctacGr15
import Derived.Test.YgctacGr18
import Derived.Test.YgctacGr19
import Derived.Test.YgctacGr20
import Derived.Test.YgctacGr21
import Derived.Test.YgctacGr22
namespace Go.Proofs.Ygctac
open Go.RowKit
set_option linter.unusedVariables false
set_option linter.unusedSimpArgs false

theorem biteMachine_any (p : Option Addr) (n c hurt which : Nat) (K : Nat → Nat) (V : Nat → Value) (X : Nat → Ent) (h8 : 8 ≤ hurt) (h12 : hurt ≤ 12) (hn2 : n ≤ 140737488355328) (hwh : which ≤ 255) (w : World) (hs : ScV w p n c K V X) :
    Calls Tacg.prog 33 #[.slice p n c, .int .u8 hurt, .int .i64 which] w fun r w' => TrueB w r w' := by
  rcases (show hurt = 8 ∨ hurt = 9 ∨ hurt = 10 ∨ hurt = 11 ∨ hurt = 12 by omega) with rfl | rfl | rfl | rfl | rfl <;> by_cases hn : n ≤ 128
  · exact biteM_8s p n c which K V X hn hn2 hwh w hs
  · exact biteM_8b p n c which K V X (by omega) hn2 hwh w hs
  · exact biteM_9s p n c which K V X hn hn2 hwh w hs
  · exact biteM_9b p n c which K V X (by omega) hn2 hwh w hs
  · exact biteM_10s p n c which K V X hn hn2 hwh w hs
  · exact biteM_10b p n c which K V X (by omega) hn2 hwh w hs
  · exact biteM_11s p n c which K V X hn hn2 hwh w hs
  · exact biteM_11b p n c which K V X (by omega) hn2 hwh w hs
  · exact biteM_12s p n c which K V X hn hn2 hwh w hs
  · exact biteM_12b p n c which K V X (by omega) hn2 hwh w hs

set_option maxRecDepth 100000 in
set_option maxHeartbeats 4000000 in
theorem checksBite_any (sp : Option Addr) (sn sc : Nat) (K : Nat → Nat) (V : Nat → Value) (X : Nat → Ent) (p : Option Addr) (n c h : Nat) (f : Nat → Nat) (hsn : sn ≤ 140737488355328) (hn : n < 140737488355328) (hc : n ≤ c) (hh : h < 256) (hf : ∀ i, i < n → f i < 18446744073709551616) (w : World) (hs : ScV w sp sn sc K V X) (hx : SlV w p n (ulX f)) :
    Calls Tacg.prog 5 #[.slice sp sn sc, .slice p n c, .int .u8 h] w fun r w' => TrueB w r w' := by
  have HFL := hide (floats_any p n c f hn hc w hx)
  obtain ⟨N, hN, hN1, hN2⟩ : ∃ N, N = min n 1024 ∧ N ≤ 1024 ∧ N ≤ n := ⟨_, rfl, by omega, by omega⟩
  rw [← hN] at HFL
  have HFF : Hid (∀ i, i < N → f i < 18446744073709551616) := hide (fun i hi => hf i (by omega))
  obtain ⟨a, b, hab, ha, hb⟩ : ∃ a b : Nat, h = 13 * a + b ∧ a ≤ 255 ∧ b < 13 := ⟨h / 13, h % 13, by omega, by omega, by omega⟩
  have q1 : (h : Int).tdiv 13 = (a : Int) := by rw [Int.tdiv_eq_ediv_of_nonneg (by omega)]; omega
  have q2 : (h : Int).tmod 13 = (b : Int) := by rw [Int.tmod_eq_emod_of_nonneg (by omega)]; omega
  have HS := hide hs
  have HX := hide hx
  clear hs hx hf hN hab
  go_enter Tacg.func5, Tacg.ntmps5
  go_wp2_with fail
  refine HFL.out.mono ?_
  rintro e w1 ⟨rfl, hA, hB⟩
  have HA := hide hA.slv
  have HAD := hide (admitted_any (some ⟨w.heap.size, 0, none⟩) N N f hN1 HFF.out w1 hA.slv)
  have HB := hide hB
  have HS1 := hide (HS.out.below hB)
  have HX1 := hide (HX.out.below hB)
  clear hA hB HFL HS HX
  obtain ⟨g, hg⟩ : ∃ g, g = w.heap.size := ⟨_, rfl⟩
  rw [← hg] at HA HAD ⊢
  clear hg
  go_wp2_with fail
  refine HAD.out.mono ?_
  rintro e w' ⟨rfl, hw⟩
  obtain rfl := hw.symm
  clear hw HAD
  cases had : admB f 0 N
  · go_wp2_with fail
    go_ret
    exact ⟨rfl, HB.out⟩
  · have HADM := hide (adm_of HFF.out had)
    clear had
    by_cases b0 : b = 0
    · subst b0
      have HC := hide (biteRoom_any (some ⟨g, 0, none⟩) N N f hN1 HADM.out w1 HA.out)
      go_wp2_with fail
      refine HC.out.mono ?_
      rintro e w2 ⟨rfl, hb2⟩
      have HB2 := hide (HB.out.trans (hb2.mono HB.out.size))
      clear hb2
      go_wp2_with fail
      go_ret
      exact ⟨rfl, HB2.out⟩
    · have t0 : ¬ (b : Int) = 0 := by omega
      by_cases b6 : b ≤ 6
      · have t1 : (b : Int) ≤ 6 := by omega
        have HC := hide (bitePartials_any (some ⟨g, 0, none⟩) N N b a f hN1 (by omega) b6 ha HADM.out w1 HA.out)
        go_wp2_with fail
        refine HC.out.mono ?_
        rintro e w2 ⟨rfl, hb2⟩
        have HB2 := hide (HB.out.trans (hb2.mono HB.out.size))
        clear hb2
        go_wp2_with fail
        go_ret
        exact ⟨rfl, HB2.out⟩
      · have t1 : ¬ (b : Int) ≤ 6 := by omega
        by_cases b7 : b = 7
        · subst b7
          have HC := hide (biteElem_any p n c a f hn hc ha w1 HX1.out)
          go_wp2_with fail
          refine HC.out.mono ?_
          rintro e w2 ⟨rfl, hb2⟩
          have HB2 := hide (HB.out.trans (hb2.mono HB.out.size))
          clear hb2
          go_wp2_with fail
          go_ret
          exact ⟨rfl, HB2.out⟩
        · have t2 : ¬ (b : Int) = 7 := by omega
          have HC := hide (biteMachine_any sp sn sc b a K V X (by omega) (by omega) hsn ha w1 HS1.out)
          go_wp2_with fail
          refine HC.out.mono ?_
          rintro e w2 ⟨rfl, hb2⟩
          have HB2 := hide (HB.out.trans (hb2.mono HB.out.size))
          clear hb2
          go_wp2_with fail
          go_ret
          exact ⟨rfl, HB2.out⟩
end Go.Proofs.Ygctac
