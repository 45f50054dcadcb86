/-
  law.draw, law.share.
-/
import Derived.Test.YgctacKm20
import Derived.OwnWalk
namespace Go.Proofs.Ygctac
open Go.RowKit
set_option linter.unusedVariables false
set_option linter.unusedSimpArgs false

def DrawR (w : World) (r : Ending) (w' : World) : Prop := ∃ i j d : Nat, r = .returned (.tuple #[.int .i64 i, .int .i64 j, .int .i64 d]) ∧ i ≤ 1000000 ∧ j ≤ 140737489355328 ∧ d ≤ 1000000 ∧ Below w.heap.size w w'
set_option maxRecDepth 100000 in
set_option maxHeartbeats 2000000 in
theorem draw_any (K : Nat) (hK : K < 256) (xa : Ent) (w : World) (h : EntOk w xa) : Calls Tacg.prog 89 #[.agg #[.int .u8 K, vOf xa]] w fun r w' => DrawR w r w' := by
  cases xa with
  | none =>
    show Calls Tacg.prog 89 #[.agg #[.int .u8 K, .slice none 0 0]] w _
    go_enter Tacg.func89, Tacg.ntmps89
    go_wp2_with fail
    go_ret3
    exact ⟨K, 0, 0, rfl, by omega, by omega, by omega, (Below.refl _ _).alloc (Nat.le_refl _) _⟩
  | some e =>
    obtain ⟨b, o, l, c, f⟩ := e
    obtain ⟨h1, h2, h3, h4⟩ := h _ rfl
    simp only at h1 h2 h3 h4
    show Calls Tacg.prog 89 #[.agg #[.int .u8 K, .slice (some ⟨b, o, none⟩) l c]] w _
    rcases Nat.eq_zero_or_pos l with rfl | hl
    · clear h h3 h4
      go_enter Tacg.func89, Tacg.ntmps89
      go_wp2_with fail
      go_ret3
      exact ⟨K, 0, 0, rfl, by omega, by omega, by omega, (Below.refl _ _).alloc (Nat.le_refl _) _⟩
    · obtain ⟨m, hm⟩ : ∃ m, l = m + 1 := ⟨l - 1, by omega⟩
      have hA : Below w.heap.size w (w.alloc (.cells #[.int .u8 K, .slice (some ⟨b, o, none⟩) l c] 36)) := (Below.refl _ _).alloc (Nat.le_refl _) _
      have c0 : (w.alloc (.cells #[.int .u8 K, .slice (some ⟨b, o, none⟩) l c] 36)).cell? ⟨b, o + 0, none⟩ = some (.int .u8 (f 0)) := cell_alloc' _ (h4 0 (by omega))
      have cm : (w.alloc (.cells #[.int .u8 K, .slice (some ⟨b, o, none⟩) l c] 36)).cell? ⟨b, o + m, none⟩ = some (.int .u8 (f m)) := cell_alloc' _ (h4 m (by omega))
      rw [Nat.add_zero] at c0
      have d0 := h3 0 (by omega)
      have dm := h3 m (by omega)
      have tl : (0 : Int) < (l : Int) := by omega
      have ti : (l : Int) - 1 = (m : Int) := by omega
      have tm : (m : Int) < (l : Int) := by omega
      have x0 : (w.alloc (.cells #[.int .u8 K, .slice (some ⟨b, o, none⟩) l c] 36)).cell? ⟨w.heap.size, 0, none⟩ = some (.int .u8 K) := cell_of (alloc_last _ _) rfl
      have x1 : (w.alloc (.cells #[.int .u8 K, .slice (some ⟨b, o, none⟩) l c] 36)).cell? ⟨w.heap.size, 1, none⟩ = some (.slice (some ⟨b, o, none⟩) l c) := cell_of (alloc_last _ _) rfl
      obtain ⟨a0, ha0⟩ := Int.eq_ofNat_of_zero_le d0.1
      obtain ⟨am, ham⟩ := Int.eq_ofNat_of_zero_le dm.1
      rw [ha0] at c0 d0
      rw [ham] at cm dm
      have HM := hide hm
      have HA := hide hA
      by_cases m0 : l ≤ 1
      · have t1 : ¬ ((1 : Int) < (l : Int)) := by omega
        clear h h3 h4 hA ha0 ham hm
        go_enter Tacg.func89, Tacg.ntmps89
        go_wp2_with fail
        generalize w.alloc (.cells #[.int .u8 K, .slice (some ⟨b, o, none⟩) l c] 36) = w1 at *
        go_quiet (fail)
        go_wp2_with fail
        go_ret3
        exact ⟨K + a0, l + am, a0, by simp, by omega, by omega, by omega, below_dN HA.out nq⟩
      · have c1 : (w.alloc (.cells #[.int .u8 K, .slice (some ⟨b, o, none⟩) l c] 36)).cell? ⟨b, o + 1, none⟩ = some (.int .u8 (f 1)) := cell_alloc' _ (h4 1 (by omega))
        have d1 := h3 1 (by omega)
        obtain ⟨a1, ha1⟩ := Int.eq_ofNat_of_zero_le d1.1
        rw [ha1] at c1 d1
        have t1 : (1 : Int) < (l : Int) := by omega
        clear h h3 h4 hA ha0 ham ha1 hm
        go_enter Tacg.func89, Tacg.ntmps89
        go_wp2_with fail
        generalize w.alloc (.cells #[.int .u8 K, .slice (some ⟨b, o, none⟩) l c] 36) = w1 at *
        go_quiet (fail)
        go_wp2_with fail
        go_ret3
        exact ⟨K + a0, l + am, a0 + 256 * a1, by simp, by omega, by omega, by omega, below_dN HA.out nq⟩
end Go.Proofs.Ygctac
