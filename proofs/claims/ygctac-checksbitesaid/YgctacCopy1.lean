/-
  Rows of digits in memory of their own; scribble, sameDigits, sameNat.
-/
import Derived.Test.YgctacEmpty
import Derived.Laws.Append
namespace Go.Proofs.Ygctac
open Go.RowKit
set_option linter.unusedVariables false
set_option linter.unusedSimpArgs false

/-- Block g is a row of bytes that begins with the n digits f. -/
def OwnRow (w : World) (g n : Nat) (f : Nat → Int) : Prop := ∃ C : Array Value, w.heap[g]? = some (.cells C 5 (0, 0)) ∧ n ≤ C.size ∧ ∀ i, i < n → C[i]? = some (.int .u8 (f i))
theorem OwnRow.cell {w : World} {g n : Nat} {f : Nat → Int} (h : OwnRow w g n f) (i : Nat) (hi : i < n) : w.cell? ⟨g, i, none⟩ = some (.int .u8 (f i)) := by
  obtain ⟨C, h1, h2, h3⟩ := h
  rw [World.cell?, h1]
  exact h3 i hi
theorem OwnRow.cells {w : World} {g n : Nat} {f : Nat → Int} (h : OwnRow w g n f) : Cells w g 0 n f := by
  intro i hi
  rw [Nat.zero_add]
  exact h.cell i hi
theorem OwnRow.frozen {w : World} {g n : Nat} {f : Nat → Int} (h : OwnRow w g n f) (i : Nat) : w.frozen? ⟨g, i, none⟩ = false := by
  obtain ⟨C, h1, _⟩ := h
  rw [World.frozen?, h1]
  simp
theorem OwnRow.lt {w : World} {g n : Nat} {f : Nat → Int} (h : OwnRow w g n f) : g < w.heap.size := by
  obtain ⟨C, h1, _⟩ := h
  exact (Array.getElem?_eq_some_iff.1 h1).1
theorem OwnRow.below {w w' : World} {g n B : Nat} {f : Nat → Int} (h : OwnRow w g n f) (hb : Below B w w') (hB : g < B) : OwnRow w' g n f := by
  obtain ⟨C, h1, h2⟩ := h
  exact ⟨C, (hb.block g hB).trans h1, h2⟩
theorem RowAt.own {w : World} {g n : Nat} {f : Nat → Int} (h : RowAt w g n f) : OwnRow w g n f :=
  ⟨_, h, by simp [rowL_length], fun i hi => by have := rowL_get n f i hi; simpa using this⟩
theorem OwnRow.le {w : World} {g n m : Nat} {f : Nat → Int} (h : OwnRow w g n f) (hm : m ≤ n) : OwnRow w g m f := by
  obtain ⟨C, h1, h2, h3⟩ := h
  exact ⟨C, h1, by omega, fun i hi => h3 i (by omega)⟩
theorem OwnRow.congr {w : World} {g n : Nat} {f f' : Nat → Int} (h : OwnRow w g n f) (e : ∀ i, i < n → f i = f' i) : OwnRow w g n f' := by
  obtain ⟨C, h1, h2, h3⟩ := h
  exact ⟨C, h1, h2, fun i hi => by rw [h3 i hi, e i hi]⟩

/-- A slice whose elements are the n digits f. -/
def Dig (w : World) (v : Value) (n : Nat) (f : Nat → Int) : Prop := ((∃ p, v = .slice p 0 0) ∧ n = 0) ∨ ∃ b o c, v = .slice (some ⟨b, o, none⟩) n c ∧ n ≤ c ∧ Cells w b o n f
theorem Dig.below {w w' : World} {v : Value} {n : Nat} {f : Nat → Int} (h : Dig w v n f) (hb : Below w.heap.size w w') : Dig w' v n f := by
  rcases h with h | ⟨b, o, c, h1, h3, h4⟩
  · exact .inl h
  · refine .inr ⟨b, o, c, h1, h3, fun i hi => ?_⟩
    have hc := h4 i hi
    rw [hb.cell (World.block_lt_of_cell? w _ hc), hc]

theorem xor255 (z : Int) : ∃ y, bits .xor .u8 z 255 = y := ⟨_, rfl⟩

set_option maxRecDepth 100000 in
theorem scribble_row (g n c : Nat) (i : Int) (hi0 : 0 ≤ i) (hi1 : i < 65536) (hn : 0 < n) (hn2 : n ≤ 1025) (f : Nat → Int) (w : World) (h : OwnRow w g n f) :
    Calls Tacg.prog 40 #[.slice (some ⟨g, 0, none⟩) n c, .int .u16 i] w fun r w' => r = .returned (.tuple #[]) ∧ Below g w w' := by
  obtain ⟨j, rfl⟩ := Int.eq_ofNat_of_zero_le hi0
  have hjn : j % n < n := Nat.mod_lt _ hn
  have e : (j : Int).tmod (n : Int) = ((j % n : Nat) : Int) := by rfl
  have hlt : ((j % n : Nat) : Int) < (n : Int) := by omega
  have hc := h.cell (j % n) hjn
  have hf := h.frozen (j % n)
  have hp : (0 : Int) < (n : Int) := by omega
  have hz : ¬ (n : Int) = 0 := by omega
  clear h
  go_enter Tacg.func40, Tacg.ntmps40
  go_wp2
  go_end0
  exact ⟨rfl, (Below.refl g w).setCell (p := ⟨g, j % n, none⟩) (Nat.le_refl _) _⟩
theorem scribble_none (p : Option Addr) (i : Int) (w : World) :
    Calls Tacg.prog 40 #[.slice p 0 0, .int .u16 i] w fun r w' => r = .returned (.tuple #[]) ∧ w' = w := by
  go_enter Tacg.func40, Tacg.ntmps40
  go_wp2
  go_end0
  exact ⟨rfl, rfl⟩

theorem sameDigits_none (p q : Option Addr) (c c' : Nat) (w : World) :
    Calls Tacg.prog 41 #[.slice p 0 c, .slice q 0 c'] w fun r w' => r = .returned (.bool true) ∧ ∃ d, w' = w.drewN d := by
  go_enter Tacg.func41, Tacg.ntmps41
  go_wp2_with fail
  go_loopw [5] (fun s5 w1 => s5 = .int .i64 0 ∧ w1 = w) (fun _ _ => 0)
  case atStart => exact ⟨rfl, rfl⟩
  case round =>
    obtain ⟨rfl, hw⟩ := hrel
    obtain rfl := hw.symm
    go_wp2
    go_ret
    exact ⟨rfl, 0, rfl⟩
set_option maxRecDepth 100000 in
set_option maxHeartbeats 1000000 in
theorem sameDigits_some (b o c b' o' c' n : Nat) (f : Nat → Int) (hn : n ≤ 140737488355328) (w : World) (h : Cells w b o n f) (h' : Cells w b' o' n f) :
    Calls Tacg.prog 41 #[.slice (some ⟨b, o, none⟩) n c, .slice (some ⟨b', o', none⟩) n c'] w fun r w' => r = .returned (.bool true) ∧ ∃ d, w' = w.drewN d := by
  have H := hide h
  have H' := hide h'
  clear h h'
  go_enter Tacg.func41, Tacg.ntmps41
  go_wp2_with fail
  go_loopw [5] (fun s5 w1 => ∃ i d : Nat, s5 = .int .i64 i ∧ i ≤ n ∧ w1 = w.drewN d) (fun s5 _ => n - (intOf s5).toNat)
  case atStart => exact ⟨0, 0, rfl, Nat.zero_le _, rfl⟩
  case round =>
    obtain ⟨i, d, rfl, hi, rfl⟩ := hrel
    by_cases hc : i < n
    · have hi' : (i : Int) < (n : Int) := by omega
      have c1 := H.out i hc
      have c2 := H'.out i hc
      go_wp2_with fail
      go_quiet (fail)
      go_wp2_with fail
      go_roundw
      case rel => exact ⟨i + 1, _, by go_num, by omega, rfl⟩
      case measure => simp [intOf] <;> omega
    · obtain rfl : i = n := by omega
      go_wp2
      go_ret
      exact ⟨rfl, d, rfl⟩
theorem sameDigits_any {u v : Value} {n : Nat} {f : Nat → Int} (hn : n ≤ 140737488355328) (w : World) (hu : Dig w u n f) (hv : Dig w v n f) :
    Calls Tacg.prog 41 #[u, v] w fun r w' => r = .returned (.bool true) ∧ ∃ d, w' = w.drewN d := by
  rcases hu with ⟨⟨p, rfl⟩, rfl⟩ | ⟨b, o, c, rfl, h3, h4⟩
  · rcases hv with ⟨⟨q, rfl⟩, _⟩ | ⟨b', o', c', rfl, h3', h4'⟩
    · exact sameDigits_none p q 0 0 w
    · exact sameDigits_none p _ 0 c' w
  · rcases hv with ⟨⟨q, rfl⟩, rfl⟩ | ⟨b', o', c', rfl, h3', h4'⟩
    · exact sameDigits_none _ q c 0 w
    · exact sameDigits_some b o c b' o' c' n f hn w h4 h4'

theorem sameNat_nil (w : World) : Calls Tacg.prog 42 #[.slice none 0 0, .slice none 0 0] w fun r w' => r = .returned (.bool true) ∧ ∃ d, w' = w.drewN d := by
  go_enter Tacg.func42, Tacg.ntmps42
  go_wp2_with fail
  go_loopw [5] (fun s5 w1 => s5 = .int .i64 0 ∧ w1 = w) (fun _ _ => 0)
  case atStart => exact ⟨rfl, rfl⟩
  case round =>
    obtain ⟨rfl, hw⟩ := hrel
    obtain rfl := hw.symm
    go_wp2
    go_ret
    exact ⟨rfl, 0, rfl⟩
set_option maxRecDepth 100000 in
set_option maxHeartbeats 1000000 in
theorem sameNat_some (b o c b' o' c' n : Nat) (f : Nat → Int) (hn : n ≤ 140737488355328) (w : World) (h : Cells w b o n f) (h' : Cells w b' o' n f) :
    Calls Tacg.prog 42 #[.slice (some ⟨b, o, none⟩) n c, .slice (some ⟨b', o', none⟩) n c'] w fun r w' => r = .returned (.bool true) ∧ ∃ d, w' = w.drewN d := by
  have H := hide h
  have H' := hide h'
  clear h h'
  go_enter Tacg.func42, Tacg.ntmps42
  go_wp2_with fail
  go_loopw [5] (fun s5 w1 => ∃ i d : Nat, s5 = .int .i64 i ∧ i ≤ n ∧ w1 = w.drewN d) (fun s5 _ => n - (intOf s5).toNat)
  case atStart => exact ⟨0, 0, rfl, Nat.zero_le _, rfl⟩
  case round =>
    obtain ⟨i, d, rfl, hi, rfl⟩ := hrel
    by_cases hc : i < n
    · have hi' : (i : Int) < (n : Int) := by omega
      have c1 := H.out i hc
      have c2 := H'.out i hc
      go_wp2_with fail
      go_quiet (fail)
      go_wp2_with fail
      go_roundw
      case rel => exact ⟨i + 1, _, by go_num, by omega, rfl⟩
      case measure => simp [intOf] <;> omega
    · obtain rfl : i = n := by omega
      go_wp2
      go_ret
      exact ⟨rfl, d, rfl⟩

/-- A number in memory of its own (at block g, unless it is nil): its n digits f, none at the top 0. -/
def NatO (w : World) (v : Value) (g n : Nat) (f : Nat → Int) : Prop := (v = .slice none 0 0 ∧ n = 0) ∨ (∃ c, v = .slice (some ⟨g, 0, none⟩) n c ∧ 0 < n ∧ (n ≤ c ∧ c ≤ 2048) ∧ n ≤ 1024 ∧ top f n = n ∧ OwnRow w g n f)
theorem NatO.below {w w' : World} {v : Value} {g n B : Nat} {f : Nat → Int} (h : NatO w v g n f) (hb : Below B w w') (hB : w.heap.size ≤ B) : NatO w' v g n f := by
  rcases h with h | ⟨c, h1, h2, h3, h4, h5, h6⟩
  · exact .inl h
  · exact .inr ⟨c, h1, h2, h3, h4, h5, h6.below hb (by have := h6.lt; omega)⟩
theorem NatO.dig {w : World} {v : Value} {g n : Nat} {f : Nat → Int} (h : NatO w v g n f) : Dig w v n f := by
  rcases h with ⟨h, h0⟩ | ⟨c, h1, h2, h3, h4, h5, h6⟩
  · exact .inl ⟨⟨none, h⟩, h0⟩
  · exact .inr ⟨g, 0, c, h1, h3.1, h6.cells⟩
theorem sameNat_any {u v : Value} {g g' n : Nat} {f : Nat → Int} (w : World) (hu : NatO w u g n f) (hv : NatO w v g' n f) :
    Calls Tacg.prog 42 #[u, v] w fun r w' => r = .returned (.bool true) ∧ ∃ d, w' = w.drewN d := by
  rcases hu with ⟨rfl, rfl⟩ | ⟨c, rfl, h2, h3, h4, h5, h6⟩
  · rcases hv with ⟨rfl, _⟩ | ⟨c', rfl, h2', _⟩
    · exact sameNat_nil w
    · omega
  · rcases hv with ⟨rfl, h0⟩ | ⟨c', rfl, h2', h3', h4', h5', h6'⟩
    · omega
    · exact sameNat_some g 0 c g' 0 c' n f (by omega) w h6.cells h6'.cells
theorem scribble_any {v : Value} {g n : Nat} {f : Nat → Int} (i : Int) (hi0 : 0 ≤ i) (hi1 : i < 65536) (w : World) (hv : NatO w v g n f) :
    Calls Tacg.prog 40 #[v, .int .u16 i] w fun r w' => r = .returned (.tuple #[]) ∧ Below g w w' := by
  rcases hv with ⟨rfl, rfl⟩ | ⟨c, rfl, h2, h3, h4, h5, h6⟩
  · refine (scribble_none none i w).mono ?_
    rintro r w' ⟨rfl, rfl⟩
    exact ⟨rfl, Below.refl _ _⟩
  · exact scribble_row g n c i hi0 hi1 h2 (by omega) f w h6
end Go.Proofs.Ygctac
