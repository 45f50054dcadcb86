/-
  THE LEAVES OF THE ROAD: the four in-place functions of the library, bits64, f64, b64, Split64, ends, finite, the sums and differences of words.
-/
import Derived.Test.YgctacRows
import Derived.WalkKit
import Derived.Laws.FloatArith
import Derived.Laws.BitsAllLaws
namespace Go.Proofs.Ygctac
open Go.RowKit
set_option linter.unusedVariables false

theorem call138 (b : Nat) (w : World) : (callFunc 138 #[.float .f64 b]).run Tacg.prog w = .ok (.value (.int .u64 b)) w := by
  rw [run_callFunc_extern (fn := Tacg.f138) (e := Extern.MathFloatBits.float64bits) Tacg.func138 (by kernel_rfl) (by kernel_rfl) (by kernel_rfl) (by kernel_rfl)]
  rfl
theorem call115 (n : Int) (w : World) : (callFunc 115 #[.int .u64 n]).run Tacg.prog w = .ok (.value (.float .f64 n.toNat)) w := by
  rw [run_callFunc_extern (fn := Tacg.f115) (e := Extern.MathFloatBits.float64frombits) Tacg.func115 (by kernel_rfl) (by kernel_rfl) (by kernel_rfl) (by kernel_rfl)]
  rfl

def sub64E : Array Value → Sem Value := fun args => do
  let (x, y, b) ← Extern.MathBitsCarry.three "Sub64" args
  pure (Extern.MathBitsCarry.pair ((x + Extern.MathBitsCarry.m64 - y - b) % Extern.MathBitsCarry.m64) (if x < y + b then 1 else 0))

theorem run_sub64E (x y b : Nat) (hb : b ≤ 1) (w : World) :
    (sub64E #[.int .u64 x, .int .u64 y, .int .u64 b]).run Tacg.prog w =
      .ok (.tuple #[.int .u64 (((x + 18446744073709551616 - y - b) % 18446744073709551616 : Nat) : Int), .int .u64 ((if x < y + b then 1 else 0 : Nat) : Int)]) w := by
  have : b = 0 ∨ b = 1 := by omega
  rcases this with rfl | rfl <;> rfl

/-- The carry, and the borrow, of three words. -/
def cry (x y c : Int) : Int := (x + y + c) / 18446744073709551616
def bor (x y b : Int) : Int := if x < y + b then 1 else 0
def lowA (x y c : Int) : Int := (x + y + c) % 18446744073709551616
def lowS (x y b : Int) : Int := (x - y - b) % 18446744073709551616

theorem call170 (x y c : Int) (hx : 0 ≤ x) (hy : 0 ≤ y) (hc0 : 0 ≤ c) (hc : c ≤ 1) (w : World) : (callFunc 170 #[.int .u64 x, .int .u64 y, .int .u64 c]).run Tacg.prog w =
    .ok (.value (.tuple #[.int .u64 (lowA x y c), .int .u64 (cry x y c)])) w := by
  rw [run_callFunc_extern (fn := Tacg.f170) (e := add64Entry) Tacg.func170 (by kernel_rfl) (by kernel_rfl) (by kernel_rfl) (by kernel_rfl), run_add64 x y c hx hy hc0 hc]
  rfl

theorem call174 (x y b : Int) (hx : 0 ≤ x) (hy : 0 ≤ y) (hy' : y < 18446744073709551616) (hb0 : 0 ≤ b) (hb : b ≤ 1) (w : World) : (callFunc 174 #[.int .u64 x, .int .u64 y, .int .u64 b]).run Tacg.prog w =
    .ok (.value (.tuple #[.int .u64 (lowS x y b), .int .u64 (bor x y b)])) w := by
  obtain ⟨x, rfl⟩ := Int.eq_ofNat_of_zero_le hx
  obtain ⟨y, rfl⟩ := Int.eq_ofNat_of_zero_le hy
  obtain ⟨b, rfl⟩ := Int.eq_ofNat_of_zero_le hb0
  rw [run_callFunc_extern (fn := Tacg.f174) (e := sub64E) Tacg.func174 (by kernel_rfl) (by kernel_rfl) (by kernel_rfl) (by kernel_rfl), run_sub64E x y b (by omega)]
  have e1 : (((x + 18446744073709551616 - y - b) % 18446744073709551616 : Nat) : Int) = lowS x y b := by unfold lowS; omega
  have e2 : ((if x < y + b then 1 else 0 : Nat) : Int) = bor x y b := by unfold bor; split <;> split <;> omega
  rw [e1, e2]; rfl

theorem add_any (x y c : Int) (hx : 0 ≤ x) (hy : 0 ≤ y) (hc0 : 0 ≤ c) (hc : c ≤ 1) (w : World) :
    Calls Tacg.prog 129 #[.int .u64 x, .int .u64 y, .int .u64 c] w fun r w' => r = .returned (.tuple #[.int .u64 (lowA x y c), .int .u64 (cry x y c)]) ∧ w' = w := by
  go_enter Tacg.func129, Tacg.ntmps129
  go_wp2_with (simp only [call170 x y c hx hy hc0 hc])
  go_ret2
  exact ⟨rfl, rfl⟩

theorem sub_any (x y b : Int) (hx : 0 ≤ x) (hy : 0 ≤ y) (hy' : y < 18446744073709551616) (hb0 : 0 ≤ b) (hb : b ≤ 1) (w : World) :
    Calls Tacg.prog 160 #[.int .u64 x, .int .u64 y, .int .u64 b] w fun r w' => r = .returned (.tuple #[.int .u64 (lowS x y b), .int .u64 (bor x y b)]) ∧ w' = w := by
  go_enter Tacg.func160, Tacg.ntmps160
  go_wp2_with (simp only [call174 x y b hx hy hy' hb0 hb])
  go_ret2
  exact ⟨rfl, rfl⟩

theorem bits64_any (a : Nat) (w : World) :
    Calls Tacg.prog 114 #[.float .f64 a] w fun r w' => r = .returned (.int .u64 a) ∧ w' = w := by
  go_enter Tacg.func114, Tacg.ntmps114
  go_wp2_with (simp only [call138])
  go_ret
  exact ⟨rfl, rfl⟩

theorem b64_any (a : Nat) (w : World) :
    Calls Tacg.prog 69 #[.float .f64 a] w fun r w' => r = .returned (.int .u64 a) ∧ w' = w := by
  go_enter Tacg.func69, Tacg.ntmps69
  go_wp2_with (simp only [call138])
  go_ret
  exact ⟨rfl, rfl⟩

theorem f64_any (a : Int) (w : World) :
    Calls Tacg.prog 47 #[.int .u64 a] w fun r w' => r = .returned (.float .f64 a.toNat) ∧ w' = w := by
  go_enter Tacg.func47, Tacg.ntmps47
  go_wp2_with (simp only [call115])
  go_ret
  exact ⟨rfl, rfl⟩

/-! ### Split64: the field, the fraction, and what they make -/
def sF (p : Nat) : Nat := p / 4503599627370496 % 2048
def sM (p : Nat) : Nat := p % 4503599627370496
def sNg (p : Nat) : Bool := if sF p = 2047 ∧ sM p ≠ 0 then false else ((p : Int) / 9223372036854775808 != 0)
def sMn (p : Nat) : Int := if sF p = 2047 then 0 else if sF p ≠ 0 then sM p + 4503599627370496 else sM p
def sEx (p : Nat) : Int := if sF p = 2047 then 0 else if sF p ≠ 0 then (sF p : Int) - 1075 else if sM p = 0 then 0 else -1074
def sCl (p : Nat) : Int := if sF p = 2047 then (if sM p ≠ 0 then 3 else 2) else if sF p ≠ 0 then 1 else if sM p = 0 then 0 else 1

theorem and_field (p : Nat) (hp : p < 18446744073709551616) : bits .and .u64 ((p : Int) / 4503599627370496) 2047 = (sF p : Int) := by
  have h1 : ((p : Int) / 4503599627370496) = ((p / 4503599627370496 : Nat) : Int) := by omega
  rw [h1, show (2047 : Int) = ((2047 : Nat) : Int) from rfl, u64_and_nat _ _ (by omega) (by decide)]
  rw [show (2047 : Nat) = 2 ^ 11 - 1 from rfl, Nat.and_two_pow_sub_one_eq_mod]; rfl

theorem and_frac (p : Nat) (hp : p < 18446744073709551616) : bits .and .u64 (p : Int) 4503599627370495 = (sM p : Int) := by
  rw [show (4503599627370495 : Int) = ((4503599627370495 : Nat) : Int) from rfl, u64_and_nat _ _ (by omega) (by decide)]
  rw [show (4503599627370495 : Nat) = 2 ^ 52 - 1 from rfl, Nat.and_two_pow_sub_one_eq_mod]; rfl

theorem or_frac (m : Nat) (hm : m < 4503599627370496) : bits .or .u64 (m : Int) 4503599627370496 = (m : Int) + 4503599627370496 := by
  rw [show (4503599627370496 : Int) = ((4503599627370496 : Nat) : Int) from rfl, u64_or_nat _ _ (by omega) (by decide), Nat.or_comm]
  rw [nat_join 52 4503599627370496 m (by decide) (by omega)]; omega

theorem wrap_i16 (n : Int) (h1 : -32768 ≤ n) (h2 : n < 32768) : IntKind.i16.wrap n = n := by
  simp [IntKind.wrap, IntKind.bits, IntKind.signed]; omega

theorem sM_lt (p : Nat) : sM p < 4503599627370496 := Nat.mod_lt _ (by decide)
theorem sF_lt (p : Nat) : sF p < 2048 := Nat.mod_lt _ (by decide)

set_option maxHeartbeats 1000000 in
theorem split_any (p : Nat) (hp : p < 18446744073709551616) (w : World) :
    Calls Tacg.prog 46 #[.float .f64 p] w fun r w' => r = .returned (.tuple #[.bool (sNg p), .int .u64 (sMn p), .int .i16 (sEx p), .int .u8 (sCl p)]) ∧ w' = w := by
  have e1 := and_field p hp
  have e2 := and_frac p hp
  have e3 := or_frac (sM p) (sM_lt p)
  have hl := sF_lt p
  have e4 := wrap_i16 (sF p) (by omega) (by omega)
  have e5 := wrap_i16 ((sF p : Int) - 1075) (by omega) (by omega)
  clear hp
  by_cases c1 : sF p = 2047
  · by_cases c2 : sM p = 0
    · have d1 : ((sF p : Int) == 2047) = true := by simp [c1]
      have d2 : ((sM p : Int) != 0) = false := by simp [c2]
      have r1 : Hid (sNg p = ((p : Int) / 9223372036854775808 != 0) ∧ sMn p = 0 ∧ sEx p = 0 ∧ sCl p = 2) := by simp [Hid, sNg, sMn, sEx, sCl, c1, c2]
      clear c1 c2
      go_enter Tacg.func46, Tacg.ntmps46
      go_wp2_with (go_at_call 114; refine (bits64_any _ _).mono ?_; rintro e w' ⟨rfl, rfl⟩)
      obtain ⟨q1, q2, q3, q4⟩ := r1.out
      exact bodyPost_ret (v := .tuple #[.bool (sNg p), .int .u64 (sMn p), .int .i16 (sEx p), .int .u8 (sCl p)]) (by simp [results, Tacg.results46, go_sem, q1, q2, q3, q4]) rfl ⟨rfl, rfl⟩
    · have d1 : ((sF p : Int) == 2047) = true := by simp [c1]
      have d2 : ((sM p : Int) != 0) = true := by simp; omega
      have r1 : Hid (sNg p = false ∧ sMn p = 0 ∧ sEx p = 0 ∧ sCl p = 3) := by simp [Hid, sNg, sMn, sEx, sCl, c1, c2]
      clear c1 c2
      go_enter Tacg.func46, Tacg.ntmps46
      go_wp2_with (go_at_call 114; refine (bits64_any _ _).mono ?_; rintro e w' ⟨rfl, rfl⟩)
      obtain ⟨q1, q2, q3, q4⟩ := r1.out
      exact bodyPost_ret (v := .tuple #[.bool (sNg p), .int .u64 (sMn p), .int .i16 (sEx p), .int .u8 (sCl p)]) (by simp [results, Tacg.results46, go_sem, q1, q2, q3, q4]) rfl ⟨rfl, rfl⟩
  · have d1 : ((sF p : Int) == 2047) = false := by simp; omega
    by_cases c2 : sF p = 0
    · have d3 : ((sF p : Int) != 0) = false := by simp [c2]
      by_cases c3 : sM p = 0
      · have d2 : ((sM p : Int) == 0) = true := by simp [c3]
        have r1 : Hid (sNg p = ((p : Int) / 9223372036854775808 != 0) ∧ sMn p = 0 ∧ sEx p = 0 ∧ sCl p = 0) := by simp [Hid, sNg, sMn, sEx, sCl, c2, c3]
        clear c1 c2 c3
        go_enter Tacg.func46, Tacg.ntmps46
        go_wp2_with (go_at_call 114; refine (bits64_any _ _).mono ?_; rintro e w' ⟨rfl, rfl⟩)
        obtain ⟨q1, q2, q3, q4⟩ := r1.out
        exact bodyPost_ret (v := .tuple #[.bool (sNg p), .int .u64 (sMn p), .int .i16 (sEx p), .int .u8 (sCl p)]) (by simp [results, Tacg.results46, go_sem, q1, q2, q3, q4]) rfl ⟨rfl, rfl⟩
      · have d2 : ((sM p : Int) == 0) = false := by simp; omega
        have r1 : Hid (sNg p = ((p : Int) / 9223372036854775808 != 0) ∧ sMn p = sM p ∧ sEx p = -1074 ∧ sCl p = 1) := by simp [Hid, sNg, sMn, sEx, sCl, c2, c3]
        clear c1 c2 c3
        go_enter Tacg.func46, Tacg.ntmps46
        go_wp2_with (go_at_call 114; refine (bits64_any _ _).mono ?_; rintro e w' ⟨rfl, rfl⟩)
        obtain ⟨q1, q2, q3, q4⟩ := r1.out
        exact bodyPost_ret (v := .tuple #[.bool (sNg p), .int .u64 (sMn p), .int .i16 (sEx p), .int .u8 (sCl p)]) (by simp [results, Tacg.results46, go_sem, q1, q2, q3, q4]) rfl ⟨rfl, rfl⟩
    · have d3 : ((sF p : Int) != 0) = true := by simp; omega
      have r1 : Hid (sNg p = ((p : Int) / 9223372036854775808 != 0) ∧ sMn p = sM p + 4503599627370496 ∧ sEx p = (sF p : Int) - 1075 ∧ sCl p = 1) := by simp [Hid, sNg, sMn, sEx, sCl, c1, c2]
      clear c1 c2
      go_enter Tacg.func46, Tacg.ntmps46
      go_wp2_with (go_at_call 114; refine (bits64_any _ _).mono ?_; rintro e w' ⟨rfl, rfl⟩)
      obtain ⟨q1, q2, q3, q4⟩ := r1.out
      exact bodyPost_ret (v := .tuple #[.bool (sNg p), .int .u64 (sMn p), .int .i16 (sEx p), .int .u8 (sCl p)]) (by simp [results, Tacg.results46, go_sem, q1, q2, q3, q4]) rfl ⟨rfl, rfl⟩
end Go.Proofs.Ygctac
