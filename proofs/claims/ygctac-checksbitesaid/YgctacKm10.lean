/-
  law.ownMachine, all cases; law.sameMachine.
-/
import Derived.Test.YgctacKm9
namespace Go.Proofs.Ygctac
open Go.RowKit
set_option linter.unusedVariables false
set_option linter.unusedSimpArgs false

theorem own_v (p : Option Addr) (n c : Nat) (q : Option Addr) (k kc : Nat) (V : Nat → Value) (S : Nat → Ent) (Q : Nat → Int) (hn : n ≤ 140737488355328) (hk : k ≤ 140737488355328) (w : World) (hs : StV w p n c V S) (ho : OuP w q k kc Q) :
    Calls Tacg.prog 19 #[.agg #[.slice p n c, .slice q k kc]] w fun rr w' => OwnR w (min n 17) S k Q rr w' := by
  rcases hs with ⟨rfl, rfl, rfl⟩ | ⟨sb, so, rfl, h2, h3, h4⟩
  · exact own_none q k kc S Q hk w ho
  · by_cases c17 : n ≤ 17
    · rw [show min n 17 = n by omega]
      exact own_try sb so n c q k kc V S Q c17 hk w (.inr ⟨sb, so, rfl, h2, h3, h4⟩) ho
    · rw [show min n 17 = 17 by omega]
      exact own_cut sb so n c q k kc V S Q (by omega) h2 hk w (.inr ⟨sb, so, rfl, Nat.le_refl _, fun i hi => h3 i (by omega), fun i hi => h4 i (by omega)⟩) ho
theorem own_any (p : Option Addr) (n c : Nat) (q : Option Addr) (k kc : Nat) (S : Nat → Ent) (Q : Nat → Int) (hn : n ≤ 140737488355328) (hk : k ≤ 140737488355328) (w : World) (hs : StP w p n c S) (ho : OuP w q k kc Q) :
    Calls Tacg.prog 19 #[.agg #[.slice p n c, .slice q k kc]] w fun rr w' => OwnR w (min n 17) S k Q rr w' := own_v p n c q k kc _ S Q hn hk w hs.stv ho

def SameV (x y : Ent) : Prop := (x = none ∧ y = none) ∨ ∃ e e', x = some e ∧ y = some e' ∧ e.l = e'.l ∧ e.f = e'.f
theorem SameV.cp (x : Ent) (g : Nat) : SameV x (cp x g) := by
  cases x with
  | none => exact .inl ⟨rfl, rfl⟩
  | some e => exact .inr ⟨e, _, rfl, rfl, rfl, rfl⟩
theorem SameV.cps (x : Ent) (g g' : Nat) : SameV (Go.Proofs.Ygctac.cp x g) (Go.Proofs.Ygctac.cp x g') := by
  cases x with
  | none => exact .inl ⟨rfl, rfl⟩
  | some e => exact .inr ⟨_, _, rfl, rfl, rfl, rfl⟩
theorem sameNat_ent (x y : Ent) (h : SameV x y) (w : World) (hx : EntOk w x) (hy : EntOk w y) : Calls Tacg.prog 42 #[vOf x, vOf y] w fun r w' => r = .returned (.bool true) ∧ ∃ d, w' = w.drewN d := by
  rcases h with ⟨rfl, rfl⟩ | ⟨e, e', rfl, rfl, hl, hf⟩
  · exact sameNat_nil w
  · have h1 := hx e rfl
    have h2 := hy e' rfl
    have := sameNat_some e.b e.o e.c e'.b e'.o e'.c e.l e.f h1.2.1 w h1.2.2.2 (by rw [hl, hf]; exact h2.2.2.2)
    rw [hl] at this
    show Calls Tacg.prog 42 #[.slice (some ⟨e.b, e.o, none⟩) e.l e.c, .slice (some ⟨e'.b, e'.o, none⟩) e'.l e'.c] w _
    rw [hl]
    exact this

set_option maxRecDepth 100000 in
set_option maxHeartbeats 4000000 in
theorem sameMachine_any (ma mb : Nat) (p p' q q' : Option Addr) (n c c' k kc kc' : Nat) (S S' : Nat → Ent) (Q : Nat → Int) (hn : n ≤ 140737488355328) (hk : k ≤ 140737488355328) (w : World)
    (h1 : MaC w ma (.slice p n c) (.slice q k kc)) (h2 : MaC w mb (.slice p' n c') (.slice q' k kc')) (s1 : StP w p n c S) (s2 : StP w p' n c' S') (o1 : OuP w q k kc Q) (o2 : OuP w q' k kc' Q) (hs : ∀ i, i < n → SameV (S i) (S' i)) :
    Calls Tacg.prog 24 #[.pointer (some ⟨ma, 0, none⟩), .pointer (some ⟨mb, 0, none⟩)] w fun r w' => r = .returned (.bool true) ∧ ∃ d, w' = w.drewN d := by
  obtain ⟨a0, a1⟩ := h1
  obtain ⟨b0, b1⟩ := h2
  have H1 := hide s1
  have H2 := hide s2
  have HS := hide hs
  have HOO : Hid (∀ d, Calls Tacg.prog 25 #[.slice q k kc, .slice q' k kc'] (w.drewN d) fun r w' => r = .returned (.bool true) ∧ ∃ m, w' = (w.drewN d).drewN m) := hide (fun d => sameOut_any q q' k kc kc' Q hk (w.drewN d) o1 o2)
  have HA := hide (And.intro a0 b0)
  clear s1 s2 hs o1 o2
  go_enter Tacg.func24, Tacg.ntmps24
  go_wp2_with fail
  go_quiet (first | (go_at_call 25; exact Calls.quiet_of (HOO.out _)))
  go_wp2_with fail
  clear a0 b0 a1 b1
  have HW0 : Hid (∃ d, w.drewN nq = w.drewN d) := hide ⟨nq, rfl⟩
  generalize w.drewN nq = W0 at *
  go_loopw [5] (fun s5 w1 => ∃ (i : Nat) (W : World), s5 = .int .i64 i ∧ i ≤ n ∧ w1 = W ∧ Hid (∃ d, W = w.drewN d)) (fun s5 _ => n - (intOf s5).toNat)
  case atStart => exact ⟨0, _, rfl, Nat.zero_le _, rfl, HW0⟩
  case round =>
    obtain ⟨i, W, rfl, hi, hw, hW⟩ := hrel
    obtain rfl := hw.symm
    clear hw HW0
    have a0 : W.cell? ⟨ma, 0, none⟩ = some (.slice p n c) := by obtain ⟨d, hd⟩ := hW.out; rw [hd]; exact HA.out.1
    have b0 : W.cell? ⟨mb, 0, none⟩ = some (.slice p' n c') := by obtain ⟨d, hd⟩ := hW.out; rw [hd]; exact HA.out.2
    by_cases hc : i < n
    · have hi' : (i : Int) < (n : Int) := by omega
      have HW1 : Hid (StP W p n c S ∧ StP W p' n c' S') := by obtain ⟨d, hd⟩ := hW.out; rw [hd]; exact hide ⟨H1.out, H2.out⟩
      obtain ⟨sb, so, rfl, c1, e1⟩ := HW1.out.1.at hc
      obtain ⟨sb', so', rfl, c2, e2⟩ := HW1.out.2.at hc
      have hsv := HS.out i hc
      obtain ⟨x, hx⟩ : ∃ x, x = S i := ⟨_, rfl⟩
      obtain ⟨y, hy⟩ : ∃ y, y = S' i := ⟨_, rfl⟩
      rw [← hx] at c1 e1 hsv
      rw [← hy] at c2 e2 hsv
      have HC : Hid (∀ m, Calls Tacg.prog 42 #[vOf x, vOf y] (W.drewN m) fun r w' => r = .returned (.bool true) ∧ ∃ k, w' = (W.drewN m).drewN k) := hide (fun m => sameNat_ent x y hsv (W.drewN m) e1 e2)
      clear hx hy e1 e2 hsv
      go_wp2_with fail
      go_quiet (first | (go_at_call 42; exact Calls.quiet_of (HC.out _)))
      go_wp2_with fail
      go_roundw
      case rel => exact ⟨i + 1, _, by go_num, by omega, rfl, by obtain ⟨d, hd⟩ := hW.out; rw [hd]; exact hide ⟨_, drewN_drewN _ _ _⟩⟩
      case measure => simp [intOf] <;> omega
    · obtain rfl : i = n := by omega
      go_wp2
      go_ret
      exact ⟨rfl, hW.out⟩
end Go.Proofs.Ygctac
