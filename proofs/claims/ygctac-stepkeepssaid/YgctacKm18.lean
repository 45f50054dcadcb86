/-
  law.flip.
-/
import Derived.Test.YgctacKm17
namespace Go.Proofs.Ygctac
open Go.RowKit
set_option linter.unusedVariables false
set_option linter.unusedSimpArgs false

theorem xor_all : (List.range 256).all (fun z => decide (bits .xor .u8 ((z : Nat) : Int) 255 = 255 - ((z : Nat) : Int))) = true := by decide +kernel
theorem xor_255 {z : Int} (h0 : 0 ≤ z) (h1 : z < 256) : bits .xor .u8 z 255 = 255 - z := by
  obtain ⟨n, rfl⟩ := Int.eq_ofNat_of_zero_le h0
  have := List.all_eq_true.1 xor_all n (List.mem_range.2 (by omega))
  simpa using this
def fl (f : Nat → Int) : Nat → Int := fun i => 255 - f i
theorem fl_fl (f : Nat → Int) : fl (fl f) = f := by
  funext i
  simp only [fl]
  omega
theorem Dg.fl {f : Nat → Int} {n : Nat} (h : Dg f n) : Dg (Go.Proofs.Ygctac.fl f) n := fun i hi => by
  have := h i hi
  simp only [Go.Proofs.Ygctac.fl]
  omega
/-- Block g alone has changed. -/
structure Oth (g : Nat) (W W' : World) : Prop where
  os : W'.os = W.os
  tape : W'.tape = W.tape
  output : W'.output = W.output
  size : W'.heap.size = W.heap.size
  block : ∀ b, b ≠ g → W'.heap[b]? = W.heap[b]?
theorem Oth.refl (g : Nat) (W : World) : Oth g W W := ⟨rfl, rfl, rfl, rfl, fun _ _ => rfl⟩
theorem size_set (W : World) (a : Addr) (v : Value) : (W.setCell a v).heap.size = W.heap.size := by
  unfold World.setCell
  split <;> simp
theorem Oth.set {g : Nat} {W W' : World} (h : Oth g W W') (i : Nat) (v : Value) : Oth g W (W'.setCell ⟨g, i, none⟩ v) := by
  have hb := (Below.refl 0 W').setCell (p := ⟨g, i, none⟩) (Nat.zero_le _) v
  refine ⟨hb.os.trans h.os, hb.tape.trans h.tape, hb.output.trans h.output, by rw [size_set]; exact h.size, fun b hne => ?_⟩
  rw [Below.heap_setCell _ _ _ _ hne]
  exact h.block b hne
theorem Oth.drewN {g : Nat} {W W' : World} (h : Oth g W W') (d : Nat) : Oth g W (W'.drewN d) := ⟨h.os, h.tape, h.output, h.size, h.block⟩

def FlipR (g l : Nat) (f : Nat → Int) (W : World) (r : Ending) (w' : World) : Prop := r = .returned (.tuple #[]) ∧ OwnRow w' g l (fl f) ∧ Oth g W w'
set_option maxRecDepth 100000 in
set_option maxHeartbeats 1000000 in
theorem flip_row (g l c : Nat) (f : Nat → Int) (hl : l ≤ 140737488355328) (hd : Dg f l) (W : World) (h : OwnRow W g l f) :
    Calls Tacg.prog 88 #[.slice (some ⟨g, 0, none⟩) l c] W fun r w' => FlipR g l f W r w' := by
  have H := hide h
  have HD := hide hd
  clear h hd
  go_enter Tacg.func88, Tacg.ntmps88
  go_wp2_with fail
  go_loopw [2] (fun s2 W1 => ∃ (i : Nat) (V : World), s2 = .int .i64 i ∧ i ≤ l ∧ W1 = V ∧ Hid (OwnRow V g l (fun j => if j < i then fl f j else f j)) ∧ Hid (Oth g W V)) (fun s2 _ => l - (intOf s2).toNat)
  case atStart => exact ⟨0, _, rfl, Nat.zero_le _, rfl, hide (H.out.congr (fun i hi => by simp)), hide (Oth.refl _ _)⟩
  case round =>
    obtain ⟨i, V, rfl, hi, hw, hR, hO⟩ := hrel
    obtain rfl := hw.symm
    clear hw
    by_cases ci : i < l
    · have ci' : (i : Int) < (l : Int) := by omega
      have hc : V.cell? ⟨g, i, none⟩ = some (.int .u8 (f i)) := by have := hR.out.cell i ci; simpa using this
      have hf := hR.out.frozen i
      have hx := xor_255 (HD.out i ci).1 (HD.out i ci).2
      have HFX : Hid (255 - f i = fl f i) := hide rfl
      obtain ⟨z, hz⟩ : ∃ z, z = f i := ⟨_, rfl⟩
      rw [← hz] at hc hx HFX
      clear hz
      go_wp2_with fail
      go_roundw
      case rel =>
        refine ⟨i + 1, _, by go_num, by omega, rfl, hide ((hR.out.set i ci (255 - z)).congr (fun j hj => ?_)), hide (hO.out.set i _)⟩
        by_cases e : j = i
        · subst e; simp [HFX.out]
        · simp only [e, if_false]
          by_cases e2 : j < i
          · simp [e2, show j < i + 1 by omega]
          · simp [e2, show ¬ j < i + 1 by omega]
      case measure => simp [intOf] <;> omega
    · obtain rfl : l = i := by omega
      go_wp2_with fail
      go_end0
      exact ⟨rfl, hR.out.congr (fun j hj => by simp [hj]), hO.out⟩
theorem flip_nil (W : World) : Calls Tacg.prog 88 #[.slice none 0 0] W fun r w' => r = .returned (.tuple #[]) ∧ w' = W := by
  go_enter Tacg.func88, Tacg.ntmps88
  go_wp2_with fail
  go_loopw [2] (fun s2 W1 => s2 = .int .i64 0 ∧ W1 = W) (fun _ _ => 0)
  case atStart => exact ⟨rfl, rfl⟩
  case round =>
    obtain ⟨rfl, hw⟩ := hrel
    obtain rfl := hw.symm
    go_wp2
    go_end0
    exact ⟨rfl, rfl⟩
end Go.Proofs.Ygctac
