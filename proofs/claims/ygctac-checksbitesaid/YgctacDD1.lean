/-
  dd.Of, dd.Neg, law.normalDD, eft.TwoSum, eft.FastTwoSum: what they give.
-/
import Derived.Test.YgctacAccVal
namespace Go.Proofs.Ygctac
open Go.RowKit
open Fp (fv)
set_option linter.unusedVariables false
set_option linter.unusedSimpArgs false

/-- A float is stored as any one-celled value. -/
@[go_sem] theorem run_store_float (P : Program) (w : World) (a : Addr) (m : Mode) (k : FloatKind) (b : Nat) : (store a (.float k b) m).run P w = stored P w a (.float k b) m := run_store P w a _ m rfl

/-- '-x': the sign bit turned. -/
def flip64 (a : Nat) : Nat := a ^^^ 9223372036854775808
@[go_sem] theorem run_neg_f64 (P : Program) (w : World) (a : Nat) : (Op.unary .neg (.float .f64 a)).run P w = .ok (.float .f64 (flip64 a)) w := rfl

theorem twoSum_any (a b s bb aa db da e : Nat) (h1 : floatBits .add .f64 a b = some s) (h2 : floatBits .sub .f64 s a = some bb) (h3 : floatBits .sub .f64 s bb = some aa)
    (h4 : floatBits .sub .f64 b bb = some db) (h5 : floatBits .sub .f64 a aa = some da) (h6 : floatBits .add .f64 da db = some e) (w : World) :
    Calls Tacg.prog 126 #[.float .f64 a, .float .f64 b] w fun r w' => r = .returned (.tuple #[.float .f64 s, .float .f64 e]) ∧ w' = w := by
  have r1 := fun w => run_float_arith (P := Tacg.prog) w .add 74 .f64 a b s h1
  have r2 := fun w => run_float_arith (P := Tacg.prog) w .sub 74 .f64 s a bb h2
  have r3 := fun w => run_float_arith (P := Tacg.prog) w .sub 74 .f64 s bb aa h3
  have r4 := fun w => run_float_arith (P := Tacg.prog) w .sub 74 .f64 b bb db h4
  have r5 := fun w => run_float_arith (P := Tacg.prog) w .sub 74 .f64 a aa da h5
  have r6 := fun w => run_float_arith (P := Tacg.prog) w .add 74 .f64 da db e h6
  clear h1 h2 h3 h4 h5 h6
  go_enter Tacg.func126, Tacg.ntmps126
  go_wp2
  go_ret2
  exact ⟨rfl, rfl⟩

theorem fast_any (a b s z e : Nat) (h1 : floatBits .add .f64 a b = some s) (h2 : floatBits .sub .f64 s a = some z) (h3 : floatBits .sub .f64 b z = some e) (w : World) :
    Calls Tacg.prog 128 #[.float .f64 a, .float .f64 b] w fun r w' => r = .returned (.tuple #[.float .f64 s, .float .f64 e]) ∧ w' = w := by
  have r1 := fun w => run_float_arith (P := Tacg.prog) w .add 74 .f64 a b s h1
  have r2 := fun w => run_float_arith (P := Tacg.prog) w .sub 74 .f64 s a z h2
  have r3 := fun w => run_float_arith (P := Tacg.prog) w .sub 74 .f64 b z e h3
  clear h1 h2 h3
  go_enter Tacg.func128, Tacg.ntmps128
  go_wp2
  go_ret2
  exact ⟨rfl, rfl⟩

theorem below_keeps {w w' : World} (h : Below w.heap.size w w') {a : Addr} {v : Value} (hc : w.cell? a = some v) : w'.cell? a = some v := by
  rw [h.cell (World.block_lt_of_cell? w a hc), hc]

/-- Knuth's sum of two words, as far as the words go: all six steps give a number. -/
structure Sums (a b s e : Nat) : Prop where
  steps : ∃ bb aa db da, floatBits .add .f64 a b = some s ∧ floatBits .sub .f64 s a = some bb ∧ floatBits .sub .f64 s bb = some aa ∧
    floatBits .sub .f64 b bb = some db ∧ floatBits .sub .f64 a aa = some da ∧ floatBits .add .f64 da db = some e

theorem sums_any {a b s e : Nat} (h : Sums a b s e) (w : World) :
    Calls Tacg.prog 126 #[.float .f64 a, .float .f64 b] w fun r w' => r = .returned (.tuple #[.float .f64 s, .float .f64 e]) ∧ w' = w := by
  obtain ⟨bb, aa, db, da, h1, h2, h3, h4, h5, h6⟩ := h.steps
  exact twoSum_any a b s bb aa db da e h1 h2 h3 h4 h5 h6 w

theorem cells_dd {w : World} {b : Nat} {x y : Value} (h0 : w.cell? ⟨b, 0, none⟩ = some x) (h1 : w.cell? ⟨b, 1, none⟩ = some y) : (loadVar 82 ⟨b, 0, none⟩).run Tacg.prog w = .ok (.agg #[x, y]) w := by
  have hr : w.rangeAt b 0 [x, y] := by
    intro j v hv
    match j, hv with
    | 0, hv => simpa [h0] using hv
    | 1, hv => simpa [h1] using hv
    | j + 2, hv => simp at hv
  exact run_loadVar_mid (P := Tacg.prog) w b 0 82 [x, y] _ hr Tacg.underlying82 rfl (by kernel_rfl)

theorem ddOf_any {a b s e : Nat} (h : Sums a b s e) (w : World) :
    Calls Tacg.prog 66 #[.float .f64 a, .float .f64 b] w fun r w' => r = .returned (.agg #[.float .f64 s, .float .f64 e]) ∧ Below w.heap.size w w' := by
  go_enter Tacg.func66, Tacg.ntmps66
  go_wp2_with (go_at_call 126; refine (sums_any h _).mono ?_; rintro e w' ⟨rfl, rfl⟩)
  refine bodyPost_ret (results_cell1 (by rfl) _ _ _ ⟨w.heap.size, 0, none⟩ (.agg #[.float .f64 s, .float .f64 e]) rfl (cells_dd ?_ ?_)) rfl ⟨rfl, ?_⟩
  · simp [go_sem]
  · simp [go_sem]
  · exact (Below.refl _ _).alloc (Nat.le_refl _) _

theorem ddNeg_any (a b : Nat) (w : World) :
    Calls Tacg.prog 67 #[.agg #[.float .f64 a, .float .f64 b]] w fun r w' => r = .returned (.agg #[.float .f64 (flip64 a), .float .f64 (flip64 b)]) ∧ Below w.heap.size w w' := by
  go_enter Tacg.func67, Tacg.ntmps67
  go_wp2
  refine bodyPost_ret (results_cell1 (by rfl) _ _ _ ⟨w.heap.size + 1, 0, none⟩ (.agg #[.float .f64 (flip64 a), .float .f64 (flip64 b)]) rfl (cells_dd ?_ ?_)) rfl ⟨rfl, ?_⟩
  · simp [go_sem]
  · simp [go_sem]
  · exact ((Below.refl _ _).alloc (Nat.le_refl _) _).alloc (by rw [size_alloc]; omega) _

set_option maxHeartbeats 1000000 in
theorem normalDD_true (p q s : Nat) (hp : p < 18446744073709551616) (hf : Fp.Fin p) (hq : q < 18446744073709551616) (hg : Fp.Fin q) (hs : floatBits .add .f64 p q = some s) (ho : Ieee.double.order p s = some .eq) (w : World) :
    Calls Tacg.prog 59 #[.agg #[.float .f64 p, .float .f64 q]] w fun r w' => r = .returned (.bool true) ∧ Below w.heap.size w w' := by
  have r1 := fun w => run_float_arith (P := Tacg.prog) w .add 74 .f64 p q s hs
  have e1 : finB p = true := by simpa [finB] using (fin_iff hp).2 hf
  have e2 : finB q = true := by simpa [finB] using (fin_iff hq).2 hg
  have e3 : (FloatKind.f64.format.order p s == some .eq) = true := by
    have : FloatKind.f64.format.order p s = some .eq := ho
    rw [this]; rfl
  clear hs ho
  go_enter Tacg.func59, Tacg.ntmps59
  go_wp2_with (first | (go_at_call_of 132 (Value.float .f64 p); refine (finite_any p hp _).mono ?_; rintro e w' ⟨rfl, rfl⟩) | (go_at_call_of 132 (Value.float .f64 q); refine (finite_any q hq _).mono ?_; rintro e w' ⟨rfl, rfl⟩))
  go_ret
  exact ⟨rfl, (Below.refl _ _).alloc (Nat.le_refl _) _⟩
end Go.Proofs.Ygctac
