/-
  law.share.
-/
import Derived.Test.YgctacKm21
namespace Go.Proofs.Ygctac
open Go.RowKit
set_option linter.unusedVariables false
set_option linter.unusedSimpArgs false

/-- The part of an entry from digit d on. -/
def partE (e : En) (d : Nat) : En := ⟨e.b, e.o + d, e.l - d, e.c - d, fun t => e.f (d + t)⟩
def ShareR (w : World) (sb n : Nat) (S : Nat → Ent) (r : Ending) (w' : World) : Prop :=
  (r = .returned (.bool false) ∧ ∃ d, w' = w.drewN d) ∨ (r = .returned (.bool true) ∧ ∃ i j e d q, i < n ∧ j < n ∧ i ≠ j ∧ S i = some e ∧ d < e.l ∧ w' = (w.drewN q).setCell ⟨sb, j, none⟩ (vOf (some (partE e d))))

set_option maxRecDepth 100000 in
set_option maxHeartbeats 2000000 in
theorem share_any (sb n c i j d : Nat) (S : Nat → Ent) (hn : n ≤ 17) (hi : i ≤ 1000000) (hj : j ≤ 140737489355328) (hd : d ≤ 1000000) (w : World) (C : Array Value) (hg : w.heap[sb]? = some (.cells C 23 (0, 0))) (hC : ∀ i, i < n → C[i]? = some (vOf (S i))) (hE : ∀ i, i < n → EntOk w (S i)) :
    Calls Tacg.prog 90 #[.slice (some ⟨sb, 0, none⟩) n c, .int .i64 i, .int .i64 j, .int .i64 d] w fun r w' => ShareR w sb n S r w' := by
  by_cases c2 : n < 2
  · have t2 : (n : Int) < 2 := by omega
    clear hE hC hg
    go_enter Tacg.func90, Tacg.ntmps90
    go_wp2_with fail
    go_ret
    exact .inl ⟨rfl, 0, rfl⟩
  · have t2 : ¬ ((n : Int) < 2) := by omega
    have tz : ¬ ((n : Int) = 0) := by omega
    have ei : (i : Int).tmod (n : Int) = ((i % n : Nat) : Int) := by rfl
    have ej : (j : Int).tmod (n : Int) = ((j % n : Nat) : Int) := by rfl
    have li : i % n < n := Nat.mod_lt _ (by omega)
    have lj : j % n < n := Nat.mod_lt _ (by omega)
    generalize i % n = ii at *
    generalize j % n = jj at *
    have li' : (ii : Int) < (n : Int) := by omega
    have lj' : (jj : Int) < (n : Int) := by omega
    have HG := hide hg
    have ci := cell_of hg (hC ii li)
    have cj := cell_of hg (hC jj lj)
    have fj := frozen_of hg jj
    have hei := hE ii li
    clear hg hC hE
    by_cases cij : ii = jj
    · have cB : ((ii : Int) == (jj : Int)) = true := by rw [cij]; simp
      clear cij
      go_enter Tacg.func90, Tacg.ntmps90
      go_wp2_with fail
      go_quiet (fail)
      go_wp2_with fail
      go_ret
      exact .inl ⟨rfl, nq, rfl⟩
    · have cB : ((ii : Int) == (jj : Int)) = false := by simp; omega
      cases hS : S ii with
      | none =>
        rw [hS] at ci
        simp only [vOf] at ci
        go_enter Tacg.func90, Tacg.ntmps90
        go_wp2_with fail
        go_quiet (fail)
        go_wp2_with fail
        go_ret
        exact .inl ⟨rfl, nq, rfl⟩
      | some e =>
        have hok := hei e hS
        rw [hS] at ci
        have HSS := hide hS
        obtain ⟨b, o, l, ce, f⟩ := e
        simp only [vOf] at ci
        have hlc : l ≤ ce := hok.1
        clear hei hok
        obtain ⟨yp, yl, yc, hyv⟩ := vOf_slice (S jj)
        rw [hyv] at cj
        clear hyv hS
        rcases Nat.eq_zero_or_pos l with l0 | l0
        · have tB : ((l : Int) == 0) = true := by rw [l0]; rfl
          have HL0 := hide l0
          clear l0
          go_enter Tacg.func90, Tacg.ntmps90
          go_wp2_with fail
          go_quiet (fail)
          go_wp2_with fail
          go_ret
          exact .inl ⟨rfl, nq, rfl⟩
        · have tB : ((l : Int) == 0) = false := by simp; omega
          have tl : ¬ ((l : Int) = 0) := by omega
          have ed : (d : Int).tmod (l : Int) = ((d % l : Nat) : Int) := by rfl
          have ld : d % l < l := Nat.mod_lt _ l0
          generalize d % l = dd at *
          have ld' : (dd : Int) ≤ (l : Int) := by omega
          have ld2 : ¬ ((dd : Int) < 0) := by omega
          have HIJ := hide cij
          clear cij
          go_enter Tacg.func90, Tacg.ntmps90
          go_wp2_with fail
          go_quiet (fail)
          obtain ⟨w1, hw1⟩ : ∃ w1, w1 = w.drewN nq := ⟨_, rfl⟩
          have ci1 : w1.cell? ⟨sb, ii, none⟩ = some (.slice (some ⟨b, o, none⟩) l ce) := by rw [hw1]; exact ci
          have cj1 : w1.cell? ⟨sb, jj, none⟩ = some (.slice yp yl yc) := by rw [hw1]; exact cj
          have fj1 : w1.frozen? ⟨sb, jj, none⟩ = false := by rw [hw1]; exact fj
          rw [← hw1]
          have HW1 := hide hw1
          clear hw1 ci cj fj
          go_wp2_with fail
          refine wp_region_mid 15 (by kernel_rfl) (by decide) (by kernel_rfl) (by kernel_rfl) (by kernel_rfl) (by kernel_rfl) ⟨by kernel_rfl, by kernel_rfl⟩ ?_
          simp only [List.take_succ_cons, List.take_zero, List.drop_succ_cons, List.drop_zero, List.drop_nil]
          repeat (go_big_quiet_step (fail))
          refine wpQuiet_nil ?_
          rintro w' ⟨n2, rfl⟩
          refine wpOp_by rfl rfl (fun K hK => ?_)
          go_simp
          apply hK
          refine ⟨fun w' => w' = _, rfl, wpQuiet_nil ?_⟩
          rintro w' rfl
          go_wp2_with fail
          go_ret
          exact .inr ⟨rfl, ii, jj, _, dd, nq + n2, li, lj, HIJ.out, HSS.out, ld, by rw [HW1.out, World.drewN_drewN]; rfl⟩
end Go.Proofs.Ygctac
namespace Go.Proofs.Ygctac
open Go.RowKit
theorem share_small (p : Option Addr) (n c i j d : Nat) (hn : n < 2) (w : World) :
    Calls Tacg.prog 90 #[.slice p n c, .int .i64 i, .int .i64 j, .int .i64 d] w fun r w' => r = .returned (.bool false) ∧ w' = w := by
  have t2 : (n : Int) < 2 := by omega
  go_enter Tacg.func90, Tacg.ntmps90
  go_wp2_with fail
  go_ret
  exact ⟨rfl, rfl⟩
end Go.Proofs.Ygctac
