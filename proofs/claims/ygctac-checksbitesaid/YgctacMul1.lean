/-
  bits.Mul64 (this program has its body), acc.mul, (*Acc).AddProd: an accumulator gets a product, exactly.
-/
import Derived.Test.YgctacAccVal
import Derived.Lib.Mul64
namespace Go.Proofs.Ygctac
open Go.RowKit Go.Lib
open Fp (fv)
set_option linter.unusedVariables false
set_option linter.unusedSimpArgs false

namespace M64
theorem maskN (a : Nat) (ha : a < 18446744073709551616) : bits .and .u64 (a : Int) 4294967295 = ((a % 4294967296 : Nat) : Int) := by
  have h := bits_and_u64_nat a 4294967295 ha (by omega)
  have e : a &&& 4294967295 = a % 4294967296 := Nat.and_two_pow_sub_one_eq_mod a 32
  rw [e] at h
  exact h
theorem divN (a : Nat) : (a : Int) / 4294967296 = ((a / 4294967296 : Nat) : Int) := by omega
theorem mulN (a b : Nat) : (a : Int) * (b : Int) = ((a * b : Nat) : Int) := (Int.natCast_mul a b).symm
theorem addN (a b : Nat) : (a : Int) + (b : Int) = ((a + b : Nat) : Int) := (Int.natCast_add a b).symm
theorem wrapN (a : Nat) (ha : a < 18446744073709551616) : IntKind.u64.wrap (a : Int) = (a : Int) := by rw [IntKind.wrap_u64]; omega
theorem wrapM (a : Nat) : IntKind.u64.wrap (a : Int) = ((a % 18446744073709551616 : Nat) : Int) := by rw [IntKind.wrap_u64]; omega
end M64

set_option maxHeartbeats 1000000 in
theorem mul64_any (x y : Nat) (hx : x < 18446744073709551616) (hy : y < 18446744073709551616) (w : World) :
    Calls Tacg.prog 161 #[.int .u64 x, .int .u64 y] w fun e w' => e = .returned (.tuple #[.int .u64 ((x * y / 18446744073709551616 : Nat) : Int), .int .u64 ((x * y % 18446744073709551616 : Nat) : Int)]) ∧ w' = w := by
  obtain ⟨bd, bt, bw, hhi⟩ := Lib.mul64_hi x y hx hy
  have ba := Lib.half_mul_le (a := x / 4294967296) (b := y / 4294967296) (by omega) (by omega)
  have bb := Lib.half_mul_le (a := x / 4294967296) (b := y % 4294967296) (by omega) (by omega)
  have bc := Lib.half_mul_le (a := x % 4294967296) (b := y / 4294967296) (by omega) (by omega)
  have ba' : x / 4294967296 * (y / 4294967296) < 18446744073709551616 := by omega
  have bb' : x / 4294967296 * (y % 4294967296) < 18446744073709551616 := by omega
  have bc' : x % 4294967296 * (y / 4294967296) < 18446744073709551616 := by omega
  have bh1 : x / 4294967296 * (y / 4294967296) + (x / 4294967296 * (y % 4294967296) + x % 4294967296 * (y % 4294967296) / 4294967296) / 4294967296 < 18446744073709551616 := by omega
  have bh : x / 4294967296 * (y / 4294967296) + (x / 4294967296 * (y % 4294967296) + x % 4294967296 * (y % 4294967296) / 4294967296) / 4294967296 + ((x / 4294967296 * (y % 4294967296) + x % 4294967296 * (y % 4294967296) / 4294967296) % 4294967296 + x % 4294967296 * (y / 4294967296)) / 4294967296 < 18446744073709551616 := by omega
  go_enter Tacg.func161, Tacg.ntmps161
  go_wp2
  simp only [M64.maskN x hx, M64.maskN y hy, M64.divN, M64.mulN, M64.addN, M64.wrapN _ bd, M64.wrapN _ bb', M64.wrapN _ bt, M64.maskN _ bt, M64.wrapN _ bc', M64.wrapN _ bw, M64.wrapN _ ba', M64.wrapN _ bh1, M64.wrapN _ bh, M64.wrapM (x * y)]
  rw [hhi]
  go_ret2
  exact ⟨rfl, rfl⟩

theorem mul_any (x y : Int) (hx0 : 0 ≤ x) (hy0 : 0 ≤ y) (hx : x < 18446744073709551616) (hy : y < 18446744073709551616) (w : World) :
    Calls Tacg.prog 117 #[.int .u64 x, .int .u64 y] w fun e w' => e = .returned (.tuple #[.int .u64 (x * y / 18446744073709551616), .int .u64 (x * y % 18446744073709551616)]) ∧ w' = w := by
  obtain ⟨x, rfl⟩ := Int.eq_ofNat_of_zero_le hx0
  obtain ⟨y, rfl⟩ := Int.eq_ofNat_of_zero_le hy0
  have e1 : ((x : Int) * y / 18446744073709551616) = ((x * y / 18446744073709551616 : Nat) : Int) := by rw [← Int.natCast_mul]; rfl
  have e2 : ((x : Int) * y % 18446744073709551616) = ((x * y % 18446744073709551616 : Nat) : Int) := by rw [← Int.natCast_mul]; rfl
  rw [e1, e2]
  have c := mul64_any x y (by omega) (by omega)
  clear e1 e2 hx0 hy0 hx hy
  generalize ((x * y / 18446744073709551616 : Nat) : Int) = A at *
  generalize ((x * y % 18446744073709551616 : Nat) : Int) = B at *
  generalize (x : Int) = X at *
  generalize (y : Int) = Y at *
  go_enter Tacg.func117, Tacg.ntmps117
  go_wp2_with (go_at_call 161; refine (c _).mono ?_; rintro e w' ⟨rfl, rfl⟩)
  go_ret2
  exact ⟨rfl, rfl⟩

/-- A product's place, with its sign. -/
def sgn (s : Bool) (m : Int) : Int := if s = true then -m else m
theorem place_any (b : Nat) (s : Bool) (n hi lo i : Int) (h1 : 0 ≤ hi) (h2 : 0 ≤ lo) (h3 : 0 ≤ i) (h4 : i < 4160) (h5 : hi < 18446744073709551616) (h6 : lo < 18446744073709551616) (w : World) (hA : AccAt w b n) :
    Calls Tacg.prog 116 #[.pointer (some ⟨b, 0, none⟩), .bool s, .int .u64 hi, .int .u64 lo, .int .i64 i] w fun r w' => r = .returned (.tuple #[]) ∧ ∃ d, w' = (putB w b (accC (n + sgn s ((hi * 18446744073709551616 + lo) * 2 ^ i.toNat)))).drewN d := by
  cases s
  · exact place_add b n hi lo i h1 h2 h3 h4 h5 h6 w hA
  · have := place_sub b n hi lo i h1 h2 h3 h4 h5 h6 w hA
    unfold sgn
    rw [if_pos rfl, ← Int.sub_eq_add_neg]
    exact this

theorem prod_lt {a b : Int} (ha : 0 ≤ a ∧ a < 9007199254740992) (hb : 0 ≤ b ∧ b < 9007199254740992) : 0 ≤ a * b ∧ a * b < 81129638414606681695789005144064 := by
  refine ⟨Int.mul_nonneg ha.1 hb.1, ?_⟩
  have h1 : a * b ≤ 9007199254740992 * b := Int.mul_le_mul_of_nonneg_right (by omega) hb.1
  omega

theorem prod_val (p q : Nat) : sMn p * sMn q * 2 ^ (sEx p + sEx q + 2148).toNat = (sMn p * 2 ^ (sEx p + 1074).toNat) * (sMn q * 2 ^ (sEx q + 1074).toNat) := by
  have hb := sEx_bounds p
  have hc := sEx_bounds q
  rw [show (sEx p + sEx q + 2148).toNat = (sEx p + 1074).toNat + (sEx q + 1074).toNat from by omega, pp_add]
  generalize (2 : Int) ^ (sEx p + 1074).toNat = A
  generalize (2 : Int) ^ (sEx q + 1074).toNat = B
  grind

theorem hilo (a : Int) : a / 18446744073709551616 * 18446744073709551616 + a % 18446744073709551616 = a := by omega

theorem prod_sgn {p q : Nat} (hp : p < 18446744073709551616) (hf : Fp.Fin p) (hq : q < 18446744073709551616) (hg : Fp.Fin q) :
    sgn (sNg p != sNg q) ((sMn p * sMn q / 18446744073709551616 * 18446744073709551616 + sMn p * sMn q % 18446744073709551616) * 2 ^ (sEx p + sEx q + 2148).toNat) = fv p * fv q := by
  rw [hilo, prod_val, fv_split hp hf, fv_split hq hg]
  generalize sMn p * 2 ^ (sEx p + 1074).toNat = A
  generalize sMn q * 2 ^ (sEx q + 1074).toNat = B
  cases sNg p <;> cases sNg q <;> simp [sgn, Int.neg_mul, Int.mul_neg]

set_option maxRecDepth 100000 in
set_option maxHeartbeats 1000000 in
theorem addProd_any (b p q : Nat) (n : Int) (hp : p < 18446744073709551616) (hf : Fp.Fin p) (hq : q < 18446744073709551616) (hg : Fp.Fin q) (w : World) (hA : AccAt w b n) :
    Calls Tacg.prog 49 #[.pointer (some ⟨b, 0, none⟩), .float .f64 p, .float .f64 q] w fun r w' => r = .returned (.bool true) ∧ ∃ d, w' = (putB w b (accC (n + fv p * fv q))).drewN d := by
  have hb := sEx_bounds p
  have hc := sEx_bounds q
  have hm := sMn_nonneg p
  have hm2 := sMn_nonneg q
  have hpr := prod_lt hm hm2
  have hfin := (fin_iff hp).2 hf
  have hfin2 := (fin_iff hq).2 hg
  have d1 : ¬ (1 < sCl p) := by omega
  have d2 : ¬ (1 < sCl q) := by omega
  have cm := hide (mul_any (sMn p) (sMn q) (by omega) (by omega) (by omega) (by omega))
  have cp := hide (fun s => place_any b s n (sMn p * sMn q / 18446744073709551616) (sMn p * sMn q % 18446744073709551616) (sEx p + sEx q + 2148) (by omega) (by omega) (by omega) (by omega) (by omega) (by omega))
  have HV := hide (prod_sgn hp hf hq hg)
  clear hm hm2 hpr hfin hfin2 hf hg
  generalize sMn p * sMn q / 18446744073709551616 = H at *
  generalize sMn p * sMn q % 18446744073709551616 = L at *
  cases hgp : sNg p <;> cases hgq : sNg q <;> rw [hgp, hgq] at HV
  all_goals
    go_enter Tacg.func49, Tacg.ntmps49
    go_wp2_with (first | (go_at_call 46; refine (split_any _ (by assumption) _).mono ?_; rintro e w' ⟨rfl, rfl⟩) | (go_at_call 117; refine (cm.out _).mono ?_; rintro e w' ⟨rfl, rfl⟩) | (go_at_call 116; refine (cp.out _ _ hA).mono ?_; rintro e w' ⟨rfl, d, rfl⟩))
    go_ret
    exact ⟨rfl, d, by rw [← HV.out]; rfl⟩
end Go.Proofs.Ygctac
