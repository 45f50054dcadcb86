/-
  ntt.block.
-/
import Derived.Test.YgctacNt3
namespace Go.Proofs.Ygctac
open Go.RowKit Cx
set_option linter.unusedVariables false
set_option linter.unusedSimpArgs false

set_option maxRecDepth 100000 in
set_option maxHeartbeats 4000000 in
theorem block_any (g n s h gf M R : Nat) (t : TypeId) (hn : n ≤ 2048) (hs : s + 2 * h ≤ n) (hM : M ≤ 4096) (hRM : R + 2 * h ≤ M) (hne : g ≠ gf) (w : World) (hx : RowP w g n 129 IsU32) (hf : RowP w gf M t IsU32) :
    Calls Tacg.prog 178 #[.slice (some ⟨g, s, none⟩) h h, .slice (some ⟨g, s + h, none⟩) h h, .slice (some ⟨gf, R, none⟩) h h] w fun r w' => r = .returned (.tuple #[]) ∧ RowP w' g n 129 IsU32 ∧ Only g w w' := by
  have HX := hide hx
  have HF := hide hf
  have HNE := hide hne
  clear hx hf hne
  go_enter Tacg.func178, Tacg.ntmps178
  go_wp2_with fail
  go_loopw [6, 7, 8] (fun s6 s7 s8 W1 => ∃ (j : Nat) (W : World), s6 = .int .i64 j ∧ j ≤ h ∧ W1 = W ∧ Hid (RowP W g n 129 IsU32) ∧ Hid (RowP W gf M t IsU32) ∧ Hid (Only g w W)) (fun s6 _ _ _ => h - (intOf s6).toNat)
  case atStart => exact ⟨0, _, rfl, Nat.zero_le _, rfl, HX, HF, hide (Only.refl _ _)⟩
  case round =>
    obtain ⟨j, W, rfl, hj, hw, hX, hF, hO⟩ := hrel
    obtain rfl := hw.symm
    clear hw HX HF
    by_cases cj : j < h
    · have cj' : (j : Int) < (h : Int) := by omega
      obtain ⟨_, a0, u, rfl⟩ := hX.out.cell (i := s + j) (by omega)
      obtain ⟨_, a1, v, rfl⟩ := hX.out.cell (i := s + h + j) (by omega)
      obtain ⟨_, b0, x0, rfl⟩ := hF.out.cell (i := R + j * 2) (by omega)
      obtain ⟨_, b1, x1, rfl⟩ := hF.out.cell (i := R + j * 2 + 1) (by omega)
      obtain ⟨v1, k1⟩ := times_det x0 x1 v
      have K1 := hide k1
      clear k1
      have e1 := Grown.cell a1
      have e2 := Grown.cell b0
      have e3 := Grown.cell b1
      go_wp2_with fail
      all_goals (
        have hne := grown_ne
        refine wp_region_quietC (by kernel_rfl) (by kernel_rfl) ?_
        repeat (go_big_quiet_step (first | (go_at_call 168; exact Calls.grown (K1.out _)) | fail))
        refine wpQuiet_nil ?_
        rintro w' ⟨⟨V, hV⟩, hw⟩
        replace hw : w' = V := hw
        obtain rfl := hw
        have HXV := hide (hX.out.after hV)
        have HFV := hide (hF.out.after hV)
        have HOV := hide (hO.out.ext hV (Nat.le_of_lt hX.out.lt))
        clear e1 e2 e3 hV hX hF hO a0 a1 b0 b1
        obtain ⟨_, c0, z0, rfl⟩ := HXV.out.cell (i := s + j) (by omega)
        obtain ⟨_, c1, z1, rfl⟩ := HXV.out.cell (i := s + h + j) (by omega)
        have f0 := HXV.out.frozen (s + j)
        have f1 := HXV.out.frozen (s + h + j)
        have ne1 : s + j ≠ s + h + j := by omega
        have ne2 : s + h + j ≠ s + j := by omega
        go_wp2_with fail
        go_roundw)
      all_goals first
        | exact ⟨j + 1, _, by go_num, by omega, rfl, hide ((HXV.out.set (i := s + j) (by omega) ⟨_, rfl⟩).set (i := s + h + j) (by omega) ⟨_, rfl⟩), hide ((HFV.out.other (a := ⟨g, s + j, none⟩) HNE.out _).other (a := ⟨g, s + h + j, none⟩) HNE.out _), hide ((HOV.out.set (a := ⟨g, s + j, none⟩) rfl _).set (a := ⟨g, s + h + j, none⟩) rfl _)⟩
        | (simp [intOf]; omega)
    · obtain rfl : j = h := by omega
      go_wp2_with fail
      go_end0
      exact ⟨rfl, hX.out, hO.out⟩
end Go.Proofs.Ygctac
