/-
  fbits.Join64 at the mantissa 3; its callees.
-/
import Derived.Test.YgctacDoorMem
import Derived.Test.YgctacDoorBase
import Derived.Deep.RegionWith
import Derived.Deep.QuietTactic
import Derived.BigQuiet
import Derived.Deep.DeepCutAuto
namespace Go.Proofs.YgctacDoor
open Go.RowKit
set_option linter.unusedVariables false
set_option linter.unusedSimpArgs false

set_option maxRecDepth 100000 in
theorem tz3 (w : World) (hg : w.cell? ⟨1, 0, none⟩ = some (.int .u8 0)) :
    Calls Tacg.prog 50 #[.int .u64 3] w fun r w' => r = .returned (.int .i64 0) ∧ w' = w := by
  have e1 : IntKind.u64.wrap (-3) = 18446744073709551613 := by decide
  have e2 : bits BinOp.and IntKind.u64 3 18446744073709551613 = 1 := by decide
  have e3 : IntKind.u64.wrap 285870213051353865 = 285870213051353865 := by decide
  go_enter Tacg.func50, Tacg.ntmps50
  go_wp2
  go_ret
  exact ⟨rfl, rfl⟩

set_option maxRecDepth 100000 in
theorem len3 (w : World) :
    Calls Tacg.prog 51 #[.int .u64 3] w fun r w' => r = .returned (.int .i64 2) ∧ w' = w := by
  go_enter Tacg.func51, Tacg.ntmps51
  go_wp2
  go_ret
  exact ⟨by kernel_rfl, rfl⟩

theorem zeros3 (w : World) (hg : w.cell? ⟨1, 0, none⟩ = some (.int .u8 0)) :
    Calls Tacg.prog 47 #[.int .u64 3] w fun r w' => r = .returned (.int .i64 0) ∧ w' = w := by
  go_enter Tacg.func47, Tacg.ntmps47
  go_wp2_with (go_at_call 50; refine (tz3 _ hg).mono ?_; rintro e w' ⟨rfl, rfl⟩)
  go_ret
  exact ⟨rfl, rfl⟩
theorem length3 (w : World) :
    Calls Tacg.prog 48 #[.int .u64 3] w fun r w' => r = .returned (.int .i64 2) ∧ w' = w := by
  go_enter Tacg.func48, Tacg.ntmps48
  go_wp2_with (go_at_call 51; refine (len3 _).mono ?_; rintro e w' ⟨rfl, rfl⟩)
  go_ret
  exact ⟨rfl, rfl⟩
theorem from64_any (n : Int) (w : World) :
    Calls Tacg.prog 43 #[.int .u64 n] w fun r w' => r = .returned (.float .f64 n.toNat) ∧ w' = w := by
  have h := fun w => call115 n w
  go_enter Tacg.func43, Tacg.ntmps43
  go_wp2
  go_ret
  exact ⟨rfl, rfl⟩

/-- The pattern of 3 * 2^e. -/
def threeP (e : Int) : Int := (e + 1024) * 4503599627370496 + 2251799813685248
theorem or_three (f : Int) (h0 : 0 ≤ f) (h1 : f < 2048) : bits .or .u64 (f * 4503599627370496) 2251799813685248 = f * 4503599627370496 + 2251799813685248 := by
  obtain ⟨n, rfl⟩ := Int.eq_ofNat_of_zero_le h0
  have hn : n < 2048 := by omega
  have e : (n : Int) * 4503599627370496 = ((n * 4503599627370496 : Nat) : Int) := by omega
  rw [e, show (2251799813685248 : Int) = ((2251799813685248 : Nat) : Int) from rfl, u64_or_nat _ _ (by omega) (by decide)]
  rw [nat_join 52 (n * 4503599627370496) 2251799813685248 (by omega) (by decide)]
  omega

set_option maxRecDepth 100000 in
set_option maxHeartbeats 1000000 in
theorem join3 (e : Int) (h0 : -200 ≤ e) (h1 : e ≤ 200) (w : World) (hg : w.cell? ⟨1, 0, none⟩ = some (.int .u8 0)) :
    Calls Tacg.prog 42 #[.int .u64 3, .int .i64 e, .int .i64 53, .int .i64 (-1074), .int .i64 1024] w fun r w' => r = .returned (.tuple #[.int .u64 (threeP e), .bool true]) ∧ ∃ d, w' = w.drewN d := by
  go_enter Tacg.func42, Tacg.ntmps42
  go_wp2_with (first | (go_at_call 47; refine (zeros3 _ hg).mono ?_; rintro e w' ⟨rfl, rfl⟩) | (go_at_call 48; refine (length3 _).mono ?_; rintro e w' ⟨rfl, rfl⟩))
  go_quiet (fail)
  go_wp2_with fail
  have eA : bits BinOp.andNot IntKind.u64 6755399441055744 4503599627370496 = 2251799813685248 := by decide
  have eB : e + 2 - 53 + 1074 + 1 = e + 1024 := by omega
  rw [eA, eB, or_three (e + 1024) (by omega) (by omega)]
  go_ret2
  exact ⟨rfl, nq, rfl⟩

set_option maxRecDepth 100000 in
theorem join64_3 (e : Int) (h0 : -200 ≤ e) (h1 : e ≤ 200) (w : World) (hg : w.cell? ⟨1, 0, none⟩ = some (.int .u8 0)) :
    Calls Tacg.prog 33 #[.bool false, .int .u64 3, .int .i16 e] w fun r w' => r = .returned (.tuple #[.float .f64 (threeP e).toNat, .bool true]) ∧ ∃ d, w' = w.drewN d := by
  go_enter Tacg.func33, Tacg.ntmps33
  go_wp2_with (first | (go_at_call 42; refine (join3 e h0 h1 _ hg).mono ?_; rintro e w' ⟨rfl, d, rfl⟩) | (go_at_call 43; refine (from64_any _ _).mono ?_; rintro e w' ⟨rfl, rfl⟩))
  go_ret2
  exact ⟨rfl, d, rfl⟩
end Go.Proofs.YgctacDoor
