/-
  nat.Cmp as a function of the digits; Check of a machine that owns its memory; calc.room.
-/
import Derived.Test.YgctacKn14
namespace Go.Proofs.Ygctac
open Go.RowKit
set_option linter.unusedVariables false
set_option linter.unusedSimpArgs false

def cmpF (f g : Nat → Int) : Nat → Int
  | 0 => 0
  | i + 1 => if f i < g i then -1 else if g i < f i then 1 else cmpF f g i
/-- The digits of a number. -/
theorem Sl.digits {w : World} {p : Option Addr} {n : Nat} (h : Sl w p n) : ∃ f : Nat → Int, ∀ i, i < n → ∃ b o, p = some ⟨b, o, none⟩ ∧ 0 ≤ f i ∧ f i < 256 ∧ w.cell? ⟨b, o + i, none⟩ = some (.int .u8 (f i)) := by
  rcases h with ⟨rfl, rfl⟩ | ⟨b, o, f, rfl, h2, h3, h4, h5⟩
  · exact ⟨fun _ => 0, fun i hi => absurd hi (by omega)⟩
  · exact ⟨f, fun i hi => ⟨b, o, rfl, (h4 i hi).1, (h4 i hi).2, h5 i hi⟩⟩

set_option maxRecDepth 100000 in
set_option maxHeartbeats 1000000 in
theorem cmp_eq (p q : Option Addr) (n : Nat) (f g : Nat → Int) (hn : n ≤ 140737488355328) (w : World) (h : Sl w p n) (h' : Sl w q n)
    (hf : ∀ i, i < n → ∃ b o, p = some ⟨b, o, none⟩ ∧ 0 ≤ f i ∧ f i < 256 ∧ w.cell? ⟨b, o + i, none⟩ = some (.int .u8 (f i))) (hg : ∀ i, i < n → ∃ b o, q = some ⟨b, o, none⟩ ∧ 0 ≤ g i ∧ g i < 256 ∧ w.cell? ⟨b, o + i, none⟩ = some (.int .u8 (g i))) :
    Calls Tacg.prog 85 #[.slice p n n, .slice q n n] w fun r w' => r = .returned (.int .i8 (cmpF f g n)) ∧ ∃ d, w' = w.drewN d := by
  have HU := hide (trim_sl hn h)
  have HV := hide (trim_sl hn h')
  have H := hide hf
  have H' := hide hg
  clear h h' hf hg
  go_enter Tacg.func85, Tacg.ntmps85
  go_wp2_with fail
  refine HU.out.mono ?_
  rintro e w' ⟨rfl, hw⟩; obtain rfl := hw.symm
  go_wp2_with fail
  refine HV.out.mono ?_
  rintro e w' ⟨rfl, hw⟩; obtain rfl := hw.symm
  clear HU HV hw
  go_wp2_with fail
  go_loopw [5] (fun s5 w0 => ∃ (j : Nat) (W : World) (d : Nat), s5 = .int .i64 ((j : Int) - 1) ∧ j ≤ n ∧ Hid (cmpF f g n = cmpF f g j) ∧ w0 = W ∧ Hid (W = w.drewN d)) (fun s5 _ => (intOf s5 + 1).toNat)
  case atStart => exact ⟨n, w, 0, by go_num, Nat.le_refl _, hide rfl, rfl, hide rfl⟩
  case round =>
    obtain ⟨j, W, d, rfl, hj, hC, hw, hW⟩ := hrel
    obtain rfl := hw.symm
    clear hw
    cases j with
    | succ i =>
      have hi : i < n := by omega
      have hi' : (i : Int) < (n : Int) := by omega
      have e1 : ((i + 1 : Nat) : Int) - 1 = (i : Int) := by omega
      obtain ⟨b, o, rfl, x0, x1, hx⟩ := H.out i hi
      obtain ⟨b', o', rfl, y0, y1, hy⟩ := H'.out i hi
      have hx2 : W.cell? ⟨b, o + i, none⟩ = some (.int .u8 (f i)) := by rw [hW.out]; exact hx
      have hy2 : W.cell? ⟨b', o' + i, none⟩ = some (.int .u8 (g i)) := by rw [hW.out]; exact hy
      clear hx hy
      have HCF : Hid (cmpF f g n = if f i < g i then -1 else if g i < f i then 1 else cmpF f g i) := hide hC.out
      clear hC
      obtain ⟨x, hx⟩ : ∃ x, x = f i := ⟨_, rfl⟩
      obtain ⟨y, hy⟩ : ∃ y, y = g i := ⟨_, rfl⟩
      rw [← hx] at hx2 x0 x1 HCF
      rw [← hy] at hy2 y0 y1 HCF
      clear hx hy
      by_cases l1 : x < y
      · have HZ : Hid (cmpF f g n = -1) := hide (by rw [HCF.out, if_pos l1])
        clear HCF
        go_wp2_with fail
        go_quiet (fail)
        go_wp2_with fail
        go_ret
        exact ⟨by rw [HZ.out]; rfl, _, by rw [hW.out]; exact World.drewN_drewN _ _ _⟩
      · by_cases l2 : y < x
        · have HZ : Hid (cmpF f g n = 1) := hide (by rw [HCF.out, if_neg l1, if_pos l2])
          clear HCF
          go_wp2_with fail
          go_quiet (fail)
          go_wp2_with fail
          go_quiet (fail)
          go_wp2_with fail
          go_ret
          refine ⟨by rw [HZ.out]; rfl, ?_⟩
          rw [hW.out]
          exact ⟨_, by rw [World.drewN_drewN, World.drewN_drewN]⟩
        · have HZ : Hid (cmpF f g n = cmpF f g i) := hide (by rw [HCF.out, if_neg l1, if_neg l2])
          clear HCF
          go_wp2_with fail
          go_quiet (fail)
          go_wp2_with fail
          go_quiet (fail)
          go_wp2_with fail
          go_roundw
          case rel => exact ⟨i, _, _, by go_num, by omega, HZ, rfl, hide (by rw [hW.out]; first | exact World.drewN_drewN _ _ _ | rw [World.drewN_drewN])⟩
          case measure => simp [intOf] <;> omega
    | zero =>
      go_wp2_with fail
      go_ret
      exact ⟨by rw [hC.out]; rfl, d, hW.out⟩
set_option maxRecDepth 100000 in
set_option maxHeartbeats 1000000 in
theorem cmp_det (p q : Option Addr) (n m : Nat) (hn : n ≤ 140737488355328) (hm : m ≤ 140737488355328) (w : World) (h : Sl w p n) (h' : Sl w q m) :
    ∃ z, ∀ d, Calls Tacg.prog 85 #[.slice p n n, .slice q m m] (w.drewN d) fun r w' => r = .returned (.int .i8 z) ∧ ∃ k, w' = (w.drewN d).drewN k := by
  by_cases c1 : n = m
  · subst c1
    obtain ⟨f, hf⟩ := h.digits
    obtain ⟨g, hg⟩ := h'.digits
    exact ⟨_, fun d => cmp_eq p q n f g hn (w.drewN d) h h' hf hg⟩
  · have c1' : ¬ (n : Int) = (m : Int) := by omega
    by_cases c2 : n < m
    · have c2' : (n : Int) < (m : Int) := by omega
      refine ⟨-1, fun d => ?_⟩
      have HU := hide (trim_sl (w := w.drewN d) hn h)
      have HV := hide (trim_sl (w := w.drewN d) hm h')
      clear h h'
      generalize w.drewN d = w1 at *
      go_enter Tacg.func85, Tacg.ntmps85
      go_wp2_with fail
      refine HU.out.mono ?_
      rintro e w' ⟨rfl, hw⟩; obtain rfl := hw.symm
      go_wp2_with fail
      refine HV.out.mono ?_
      rintro e w' ⟨rfl, hw⟩; obtain rfl := hw.symm
      clear HU HV hw
      go_wp2_with fail
      go_ret
      exact ⟨rfl, 0, rfl⟩
    · have c2' : ¬ (n : Int) < (m : Int) := by omega
      refine ⟨1, fun d => ?_⟩
      have HU := hide (trim_sl (w := w.drewN d) hn h)
      have HV := hide (trim_sl (w := w.drewN d) hm h')
      clear h h'
      generalize w.drewN d = w1 at *
      go_enter Tacg.func85, Tacg.ntmps85
      go_wp2_with fail
      refine HU.out.mono ?_
      rintro e w' ⟨rfl, hw⟩; obtain rfl := hw.symm
      go_wp2_with fail
      refine HV.out.mono ?_
      rintro e w' ⟨rfl, hw⟩; obtain rfl := hw.symm
      clear HU HV hw
      go_wp2_with fail
      go_ret
      exact ⟨rfl, 0, rfl⟩

theorem EO.ok {W : World} {Z : Nat → Prop} {e : En} (h : EO W Z e) : EnOk W e := by
  obtain ⟨h1, h2, h3, h4, h5, h6⟩ := h
  exact ⟨by rw [h3]; exact Nat.le_refl _, by omega, h5, by rw [h2]; exact h6.cells⟩
theorem StO.stp {W : World} {Z : Nat → Prop} {p : Option Addr} {n c : Nat} {S : Nat → Ent} (h : StO W Z (.slice p n c) n S) : StP W p n c S := by
  rcases h.row with ⟨h0, rfl⟩ | ⟨g, c', C, h0, h1, h2, h3, h4⟩
  · cases h0; exact .inl ⟨rfl, rfl, rfl⟩
  · cases h0
    exact .inr ⟨g, 0, rfl, h1, fun i hi => by rw [Nat.zero_add]; exact cell_of h2 (h4 i hi), fun i hi e he => (h.ent i hi e he).ok⟩
theorem StO.plain {W : World} {Z : Nat → Prop} {v : Value} {n : Nat} {S : Nat → Ent} (h : StO W Z v n S) : AllPlain W n S := by
  intro i hi e he
  obtain ⟨C, c1, _⟩ := (h.ent i hi e he).2.2.2.2.2
  exact ⟨C, 5, c1⟩
theorem StO.noShare {W : World} {Z : Nat → Prop} {v : Value} {n : Nat} {S : Nat → Ent} (h : StO W Z v n S) : NoShare n S := by
  rintro i hi e he j hj hne ⟨k, hk, hq⟩
  cases hS : S j with
  | none => rw [hS] at hq; cases hq
  | some e' =>
    rw [hS] at hq
    injection hq with hq
    injection hq with hb _
    exact h.dis j i hj hi hne e' e hS he hb
theorem OuO.oup {W : World} {Z : Nat → Prop} {p : Option Addr} {k c : Nat} {Q : Nat → Int} (h : OuO W Z (.slice p k c) k Q) : OuP W p k c Q := by
  rcases h.row with ⟨h0, rfl⟩ | ⟨g, c', C, h0, h1, h2, h3, h4⟩
  · cases h0; exact .inl ⟨rfl, rfl, rfl⟩
  · cases h0
    exact .inr ⟨g, 0, rfl, h1, fun i hi => by rw [Nat.zero_add]; exact cell_of h2 (h4 i hi)⟩
theorem MO.mac {W : World} {Z : Nat → Prop} {mb : Nat} {v u : Value} {n : Nat} {S : Nat → Ent} {k : Nat} {Q : Nat → Int} (h : MO W Z mb v u n S k Q) : MaC W mb v u := ⟨cell_of h.cell rfl, cell_of h.cell rfl⟩
theorem check_mo {W : World} {Z : Nat → Prop} {mb : Nat} {v u : Value} {n : Nat} {S : Nat → Ent} {k : Nat} {Q : Nat → Int} (h : MO W Z mb v u n S k Q) (hn : n ≤ 140737488355328) :
    Calls Tacg.prog 21 #[.pointer (some ⟨mb, 0, none⟩)] W fun r w' => r = .returned (.bool (decide (n ≤ 16) && allN n S)) ∧ Below W.heap.size W w' := by
  obtain ⟨p, c, rfl⟩ := h.st.row.slice
  have e : chkB n S = (decide (n ≤ 16) && allN n S) := by
    by_cases c1 : n ≤ 16
    · cases hA : allN n S
      · rw [chkB_false (fun hh => by rw [hh.2.1] at hA; cases hA)]; simp
      · rw [chkB_true ⟨c1, hA, h.st.noShare⟩]; simp [c1]
    · rw [chkB_false (fun hh => c1 hh.1)]; simp [c1]
  rw [← e]
  exact check_any mb p n c S u hn W h.mac h.st.stp h.st.plain
end Go.Proofs.Ygctac
