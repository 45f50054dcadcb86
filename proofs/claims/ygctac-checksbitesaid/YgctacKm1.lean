/-
  The calculator's entries in memory; Normal, normal, checked, sameOut, anyOf.
-/
import Derived.Test.YgctacNt7
import Derived.BigQuiet
namespace Go.Proofs.Ygctac
open Go.RowKit
set_option linter.unusedVariables false
set_option linter.unusedSimpArgs false

/-- A number's place, length, capacity and digits. -/
structure En where
  b : Nat
  o : Nat
  l : Nat
  c : Nat
  f : Nat → Int
abbrev Ent := Option En
def vOf : Ent → Value
  | none => .slice none 0 0
  | some e => .slice (some ⟨e.b, e.o, none⟩) e.l e.c
def EnOk (W : World) (e : En) : Prop := e.l ≤ e.c ∧ e.l ≤ 140737488355328 ∧ Dg e.f e.l ∧ Cells W e.b e.o e.l e.f
def EntOk (W : World) (x : Ent) : Prop := ∀ e, x = some e → EnOk W e
def nrm : Ent → Bool
  | none => true
  | some e => decide (0 < e.l) && decide (e.f (e.l - 1) ≠ 0)
theorem EnOk.below {W W' : World} {e : En} (h : EnOk W e) (hb : Below W.heap.size W W') : EnOk W' e := ⟨h.1, h.2.1, h.2.2.1, cells_below h.2.2.2 hb⟩
theorem EntOk.below {W W' : World} {x : Ent} (h : EntOk W x) (hb : Below W.heap.size W W') : EntOk W' x := fun e he => (h e he).below hb
theorem EntOk.drewN {W : World} {x : Ent} {d : Nat} (h : EntOk W x) : EntOk (W.drewN d) x := h

theorem normal72 (x : Ent) (w : World) (h : EntOk w x) : Calls Tacg.prog 72 #[vOf x] w fun r w' => r = .returned (.bool (nrm x)) ∧ w' = w := by
  cases x with
  | none =>
    go_enter Tacg.func72, Tacg.ntmps72
    simp only [vOf]
    go_wp2
    go_ret
    exact ⟨rfl, rfl⟩
  | some e =>
    obtain ⟨b, o, l, c, f⟩ := e
    obtain ⟨h1, h2, h3, h4⟩ := h _ rfl
    simp only at h1 h2 h3 h4
    by_cases l0 : l = 0
    · subst l0
      clear h4
      go_enter Tacg.func72, Tacg.ntmps72
      simp only [vOf]
      go_wp2
      go_ret
      exact ⟨rfl, rfl⟩
    · obtain ⟨m, rfl⟩ : ∃ m, l = m + 1 := ⟨l - 1, by omega⟩
      have hc := h4 m (by omega)
      have hd := h3 m (by omega)
      have e1 : nrm (some ⟨b, o, m + 1, c, f⟩) = (f m != 0) := by
        simp only [nrm, Nat.add_sub_cancel]
        by_cases hz : f m = 0 <;> simp [hz]
      rw [e1]
      clear h4 h3 e1
      go_enter Tacg.func72, Tacg.ntmps72
      simp only [vOf]
      go_wp2
      go_ret
      exact ⟨rfl, rfl⟩
theorem normal71 (x : Ent) (w : World) (h : EntOk w x) : Calls Tacg.prog 71 #[vOf x] w fun r w' => r = .returned (.bool (nrm x)) ∧ w' = w := by
  cases x with
  | none =>
    go_enter Tacg.func71, Tacg.ntmps71
    simp only [vOf]
    go_wp2
    go_ret
    exact ⟨rfl, rfl⟩
  | some e =>
    obtain ⟨b, o, l, c, f⟩ := e
    obtain ⟨h1, h2, h3, h4⟩ := h _ rfl
    simp only at h1 h2 h3 h4
    by_cases l0 : l = 0
    · subst l0
      clear h4
      go_enter Tacg.func71, Tacg.ntmps71
      simp only [vOf]
      go_wp2
      go_ret
      exact ⟨rfl, rfl⟩
    · obtain ⟨m, rfl⟩ : ∃ m, l = m + 1 := ⟨l - 1, by omega⟩
      have hc := h4 m (by omega)
      have hd := h3 m (by omega)
      have e1 : nrm (some ⟨b, o, m + 1, c, f⟩) = (f m != 0) := by
        simp only [nrm, Nat.add_sub_cancel]
        by_cases hz : f m = 0 <;> simp [hz]
      rw [e1]
      clear h4 h3 e1
      go_enter Tacg.func71, Tacg.ntmps71
      simp only [vOf]
      go_wp2
      go_ret
      exact ⟨rfl, rfl⟩

/-- A stack that reads as n entries. -/
def StR (W : World) (v : Value) (n : Nat) (S : Nat → Ent) : Prop :=
  ∃ p c, v = .slice p n c ∧ ((p = none ∧ n = 0 ∧ c = 0) ∨ ∃ sb so, p = some ⟨sb, so, none⟩ ∧ n ≤ c ∧ (∀ i, i < n → W.cell? ⟨sb, so + i, none⟩ = some (vOf (S i))) ∧ ∀ i, i < n → EntOk W (S i))
def StP (W : World) (p : Option Addr) (n c : Nat) (S : Nat → Ent) : Prop :=
  (p = none ∧ n = 0 ∧ c = 0) ∨ ∃ sb so, p = some ⟨sb, so, none⟩ ∧ n ≤ c ∧ (∀ i, i < n → W.cell? ⟨sb, so + i, none⟩ = some (vOf (S i))) ∧ ∀ i, i < n → EntOk W (S i)
theorem StP.at {W : World} {p : Option Addr} {n c : Nat} {S : Nat → Ent} (h : StP W p n c S) {i : Nat} (hi : i < n) : ∃ sb so, p = some ⟨sb, so, none⟩ ∧ W.cell? ⟨sb, so + i, none⟩ = some (vOf (S i)) ∧ EntOk W (S i) := by
  rcases h with ⟨_, h, _⟩ | ⟨sb, so, h1, h2, h3, h4⟩
  · omega
  · exact ⟨sb, so, h1, h3 i hi, h4 i hi⟩
theorem StP.below {W W' : World} {p : Option Addr} {n c : Nat} {S : Nat → Ent} (h : StP W p n c S) (hb : Below W.heap.size W W') : StP W' p n c S := by
  rcases h with h | ⟨sb, so, h1, h2, h3, h4⟩
  · exact .inl h
  · refine .inr ⟨sb, so, h1, h2, fun i hi => ?_, fun i hi => (h4 i hi).below hb⟩
    have hc := h3 i hi
    rw [hb.cell (World.block_lt_of_cell? W _ hc), hc]
/-- The machine's two fields. -/
def MaC (W : World) (mb : Nat) (v u : Value) : Prop := W.cell? ⟨mb, 0, none⟩ = some v ∧ W.cell? ⟨mb, 1, none⟩ = some u
theorem MaC.below {W W' : World} {mb : Nat} {v u : Value} (h : MaC W mb v u) (hb : Below W.heap.size W W') : MaC W' mb v u := by
  have h0 := World.block_lt_of_cell? W _ h.1
  exact ⟨by rw [hb.cell h0, h.1], by rw [hb.cell (World.block_lt_of_cell? W _ h.2), h.2]⟩
def allN (n : Nat) (S : Nat → Ent) : Bool := (List.range n).all fun i => nrm (S i)
theorem allN_true {n : Nat} {S : Nat → Ent} (h : ∀ i, i < n → nrm (S i) = true) : allN n S = true := by
  unfold allN
  rw [List.all_eq_true]
  intro i hi
  exact h i (List.mem_range.1 hi)
theorem allN_false {n i : Nat} {S : Nat → Ent} (hi : i < n) (h : nrm (S i) = false) : allN n S = false := by
  unfold allN
  rw [List.all_eq_false]
  exact ⟨i, List.mem_range.2 hi, by rw [h]; decide⟩
theorem allN_at {n i : Nat} {S : Nat → Ent} (h : allN n S = true) (hi : i < n) : nrm (S i) = true := by
  unfold allN at h
  rw [List.all_eq_true] at h
  exact h i (List.mem_range.2 hi)

set_option maxRecDepth 100000 in
set_option maxHeartbeats 1000000 in
theorem checked_any (mb : Nat) (p : Option Addr) (n c : Nat) (S : Nat → Ent) (u : Value) (hn : n ≤ 140737488355328) (w : World) (hm : MaC w mb (.slice p n c) u) (hs : StP w p n c S) :
    Calls Tacg.prog 22 #[.pointer (some ⟨mb, 0, none⟩)] w fun r w' => r = .returned (.bool (allN n S && decide (n ≤ 16))) ∧ w' = w := by
  have H := hide hs
  obtain ⟨m0, m1⟩ := hm
  clear hs m1
  go_enter Tacg.func22, Tacg.ntmps22
  go_wp2_with fail
  go_loopw [3] (fun s3 w1 => ∃ i : Nat, s3 = .int .i64 i ∧ i ≤ n ∧ Hid (∀ j, j < i → nrm (S j) = true) ∧ w1 = w) (fun s3 _ => n - (intOf s3).toNat)
  case atStart => exact ⟨0, rfl, by omega, hide (fun j hj => absurd hj (by omega)), rfl⟩
  case round =>
    obtain ⟨i, rfl, hi, hA, hw⟩ := hrel
    obtain rfl := hw.symm
    clear hw
    by_cases ci : i < n
    · have ci' : (i : Int) < (n : Int) := by omega
      obtain ⟨sb, so, rfl, hc, he⟩ := H.out.at ci
      have HE := hide he
      clear he
      obtain ⟨x, hx⟩ : ∃ x, x = S i := ⟨_, rfl⟩
      rw [← hx] at hc HE
      have HX := hide hx
      clear hx
      go_wp2_with fail
      refine (normal71 x w HE.out).mono ?_
      rintro e w' ⟨rfl, hw⟩
      obtain rfl := hw.symm
      clear hw
      cases hb : nrm x
      · go_wp2_with fail
        go_ret
        refine ⟨?_, rfl⟩
        rw [allN_false ci (by rw [← HX.out]; exact hb)]
        rfl
      · go_wp2_with fail
        go_roundw
        case rel =>
          refine ⟨i + 1, by go_num, by omega, hide (fun j hj => ?_), by first | rfl | trivial⟩
          rcases Nat.lt_or_ge j i with h' | h'
          · exact hA.out j h'
          · obtain rfl : j = i := by omega
            rw [← HX.out]; exact hb
        case measure => simp [intOf] <;> omega
    · obtain rfl : n = i := by omega
      have hT := allN_true hA.out
      go_wp2_with fail
      go_ret
      refine ⟨?_, rfl⟩
      rw [hT]
      have e : decide ((n : Int) ≤ 16) = decide (n ≤ 16) := by rw [decide_eq_decide]; omega
      exact congrArg (fun b => Ending.returned (Value.bool b)) (e.trans (Bool.true_and _).symm)

/-- What was put out. -/
def OuP (W : World) (p : Option Addr) (k c : Nat) (q : Nat → Int) : Prop :=
  (p = none ∧ k = 0 ∧ c = 0) ∨ ∃ ob oo, p = some ⟨ob, oo, none⟩ ∧ k ≤ c ∧ ∀ i, i < k → W.cell? ⟨ob, oo + i, none⟩ = some (.int .i8 (q i))
theorem OuP.at {W : World} {p : Option Addr} {k c : Nat} {q : Nat → Int} (h : OuP W p k c q) {i : Nat} (hi : i < k) : ∃ ob oo, p = some ⟨ob, oo, none⟩ ∧ W.cell? ⟨ob, oo + i, none⟩ = some (.int .i8 (q i)) := by
  rcases h with ⟨_, h, _⟩ | ⟨ob, oo, h1, h2, h3⟩
  · omega
  · exact ⟨ob, oo, h1, h3 i hi⟩
theorem OuP.below {W W' : World} {p : Option Addr} {k c : Nat} {q : Nat → Int} (h : OuP W p k c q) (hb : Below W.heap.size W W') : OuP W' p k c q := by
  rcases h with h | ⟨sb, so, h1, h2, h3⟩
  · exact .inl h
  · refine .inr ⟨sb, so, h1, h2, fun i hi => ?_⟩
    have hc := h3 i hi
    rw [hb.cell (World.block_lt_of_cell? W _ hc), hc]

set_option maxRecDepth 100000 in
set_option maxHeartbeats 1000000 in
theorem sameOut_any (p p' : Option Addr) (k c c' : Nat) (q : Nat → Int) (hk : k ≤ 140737488355328) (w : World) (h : OuP w p k c q) (h' : OuP w p' k c' q) :
    Calls Tacg.prog 25 #[.slice p k c, .slice p' k c'] w fun r w' => r = .returned (.bool true) ∧ ∃ d, w' = w.drewN d := by
  have H := hide h
  have H' := hide h'
  clear h h'
  go_enter Tacg.func25, Tacg.ntmps25
  go_wp2_with fail
  go_loopw [5] (fun s5 w1 => ∃ i d : Nat, s5 = .int .i64 i ∧ i ≤ k ∧ w1 = w.drewN d) (fun s5 _ => k - (intOf s5).toNat)
  case atStart => exact ⟨0, 0, rfl, Nat.zero_le _, rfl⟩
  case round =>
    obtain ⟨i, d, rfl, hi, rfl⟩ := hrel
    by_cases hc : i < k
    · have hi' : (i : Int) < (k : Int) := by omega
      obtain ⟨ob, oo, rfl, c1⟩ := H.out.at hc
      obtain ⟨ob', oo', rfl, c2⟩ := H'.out.at hc
      go_wp2_with fail
      go_quiet (fail)
      go_wp2_with fail
      go_roundw
      case rel => exact ⟨i + 1, _, by go_num, by omega, rfl⟩
      case measure => simp [intOf] <;> omega
    · obtain rfl : i = k := by omega
      go_wp2
      go_ret
      exact ⟨rfl, d, rfl⟩

/-- A block of plain cells. -/
def Plain (w : World) (b : Nat) : Prop := ∃ C t, w.heap[b]? = some (.cells C t (0, 0))
theorem eql_ptr (w : World) (a b : Addr) (ha : Plain w a.block) (hb : Plain w b.block) : (binOp .eql 164 (.pointer (some a)) (.pointer (some b))).run Tacg.prog w = .ok (.bool (decide (some b = some a))) w := by
  obtain ⟨C, t, h1⟩ := ha
  obtain ⟨C', t', h2⟩ := hb
  have hu : Tacg.prog.underlying 164 = some (.pointer 5) := by kernel_rfl
  have f1 : ∀ n, w.frozen? ⟨a.block, n, none⟩ = false := fun n => by rw [World.frozen?, h1]; simp
  have f2 : ∀ n, w.frozen? ⟨b.block, n, none⟩ = false := fun n => by rw [World.frozen?, h2]; simp
  have g1 : w.frozen? a = false := by rw [World.frozen?, h1]; simp
  have g2 : w.frozen? b = false := by rw [World.frozen?, h2]; simp
  have s1 : w.shape? a.block = some (t, C.size) := by simp [World.shape?, h1]
  have s2 : w.shape? b.block = some (t', C'.size) := by simp [World.shape?, h2]
  obtain ⟨ti, hi, _, hz1, _⟩ := info_parts info5
  have key : ∀ d, (Op.equalIn (d + 1) 164 (.pointer (some a)) (.pointer (some b))).run Tacg.prog w = .ok (decide (some b = some a)) w := by
    intro d
    by_cases hbk : a.block = b.block
    · by_cases e : a = b
      · simp [Op.equalIn, run_underlying hu, sizeOf, typeInfo, hi, hz1, sameAddr, hbk, e]
      · simp [Op.equalIn, run_underlying hu, sizeOf, typeInfo, hi, hz1, sameAddr, hbk, e, Ne.symm e]
    · have hne : a ≠ b := fun e => hbk (by rw [e])
      simp [Op.equalIn, run_underlying hu, sizeOf, typeInfo, hi, hz1, sameAddr, hbk, g1, g2, noView, viewAt, s1, s2, mayBeOne, stringish, f1, f2, Ne.symm hne]
  have key2 : (Op.equal 164 (.pointer (some a)) (.pointer (some b))).run Tacg.prog w = .ok (decide (some b = some a)) w := key 9999
  simp only [binOp]
  simp [key2]

/-- The place q is one of e's digits'. -/
def hit (e : En) (q : Option Addr) : Prop := ∃ k, k < e.l ∧ q = some ⟨e.b, e.o + k, none⟩

end Go.Proofs.Ygctac
