/-
  calc.sharesDigit.
-/
import Derived.Test.YgctacKm2
namespace Go.Proofs.Ygctac
open Go.RowKit
set_option linter.unusedVariables false
set_option linter.unusedSimpArgs false

def first : Ent → Option Addr
  | none => none
  | some e => some ⟨e.b, e.o, none⟩
theorem not_hit_none (e : En) : ¬ hit e none := fun ⟨_, _, h⟩ => by cases h
/-- Block g holds eight places. -/
def PtrRow (W : World) (g : Nat) (P : Nat → Option Addr) : Prop := ∃ C : Array Value, W.heap[g]? = some (.cells C 165 (0, 0)) ∧ C.size = 8 ∧ ∀ t, t < 8 → C[t]? = some (.pointer (P t))
theorem PtrRow.cell {W : World} {g : Nat} {P : Nat → Option Addr} (h : PtrRow W g P) {t : Nat} (ht : t < 8) : W.cell? ⟨g, t, none⟩ = some (.pointer (P t)) := by
  obtain ⟨C, h1, h2, h3⟩ := h
  rw [World.cell?, h1]
  exact h3 t ht
theorem PtrRow.frozen {W : World} {g : Nat} {P : Nat → Option Addr} (h : PtrRow W g P) (t : Nat) : W.frozen? ⟨g, t, none⟩ = false := by
  obtain ⟨C, h1, _⟩ := h
  rw [World.frozen?, h1]
  simp
theorem PtrRow.set {W : World} {g : Nat} {P : Nat → Option Addr} (h : PtrRow W g P) {t : Nat} (ht : t < 8) (q : Option Addr) : PtrRow (W.setCell ⟨g, t, none⟩ (.pointer q)) g (fun j => if j = t then q else P j) := by
  obtain ⟨C, h1, h2, h3⟩ := h
  refine ⟨C.setIfInBounds t (.pointer q), heap_setCell_same W g t C 165 _ h1, by simp [h2], fun j hj => ?_⟩
  by_cases e : j = t
  · subst e; simp [h2, hj]
  · simp only [e, if_false]
    rw [Array.getElem?_setIfInBounds_ne (by omega)]
    exact h3 j hj
theorem PtrRow.drewN {W : World} {g d : Nat} {P : Nat → Option Addr} (h : PtrRow W g P) : PtrRow (W.drewN d) g P := h

/-- Every digit of an entry lies in a block of plain cells. -/
def AllPlain (w : World) (n : Nat) (S : Nat → Ent) : Prop := ∀ i, i < n → ∀ e, S i = some e → Plain w e.b
theorem Plain.below {w w' : World} {b : Nat} (h : Plain w b) (hb : Below w.heap.size w w') : Plain w' b := by
  obtain ⟨C, t, h1⟩ := h
  exact ⟨C, t, (hb.block b (Array.getElem?_eq_some_iff.1 h1).1).trans h1⟩

/-- In the midst of the pass over the others: j entries seen, m places held. -/
structure SI (w W : World) (gf n i j m : Nat) (S : Nat → Ent) (e : En) (P : Nat → Option Addr) : Prop where
  row : PtrRow W gf P
  below : Below w.heap.size w W
  from_ : ∀ t, t < 8 → P t = none ∨ ∃ k, k < n ∧ k ≠ i ∧ P t = first (S k)
  rest : ∀ t, m ≤ t → P t = none
  cover : ∀ k, k < j → k ≠ i → ¬ hit e (first (S k)) ∨ ∃ t, t < 8 ∧ P t = first (S k)
theorem SI.skip {w W : World} {gf n i j m : Nat} {S : Nat → Ent} {e : En} {P : Nat → Option Addr} (h : SI w W gf n i j m S e P) (hj : j = i ∨ S j = none) : SI w W gf n i (j + 1) m S e P :=
  ⟨h.row, h.below, h.from_, h.rest, fun k hk hne => by
    rcases Nat.lt_or_ge k j with h' | h'
    · exact h.cover k h' hne
    · obtain rfl : k = j := by omega
      rcases hj with h0 | h0
      · exact absurd h0 hne
      · rw [h0]; exact .inl (not_hit_none e)⟩
theorem SI.store {w W : World} {gf n i j m : Nat} {S : Nat → Ent} {e : En} {P : Nat → Option Addr} (h : SI w W gf n i j m S e P) (hm : m < 8) (hj : j < n) (hne : j ≠ i) (hg : w.heap.size ≤ gf) :
    SI w (W.setCell ⟨gf, m, none⟩ (.pointer (first (S j)))) gf n i (j + 1) (m + 1) S e (fun t => if t = m then first (S j) else P t) := by
  refine ⟨h.row.set hm _, h.below.setCell (p := ⟨gf, m, none⟩) hg _, fun t ht => ?_, fun t ht => ?_, fun k hk hki => ?_⟩
  · by_cases c : t = m
    · simp only [c, if_true]; exact .inr ⟨j, hj, hne, rfl⟩
    · simp only [c, if_false]; exact h.from_ t ht
  · simp only [show t ≠ m by omega, if_false]; exact h.rest t (by omega)
  · rcases Nat.lt_or_ge k j with h' | h'
    · rcases h.cover k h' hki with h1 | ⟨t, ht, h1⟩
      · exact .inl h1
      · by_cases c : t = m
        · subst c
          rw [h.rest t (Nat.le_refl _)] at h1
          rw [← h1]
          exact .inl (not_hit_none e)
        · exact .inr ⟨t, ht, by simp only [c, if_false]; exact h1⟩
    · obtain rfl : k = j := by omega
      exact .inr ⟨m, hm, by simp⟩
theorem SI.flush {w W W' : World} {gf n i j m : Nat} {S : Nat → Ent} {e : En} {P : Nat → Option Addr} (h : SI w W gf n i j m S e P) (hF : ∀ t, t < 8 → ¬ hit e (P t)) (hr : PtrRow W' gf (fun _ => none)) (hb : Below w.heap.size w W') :
    SI w W' gf n i j 0 S e (fun _ => none) :=
  ⟨hr, hb, fun t ht => .inl rfl, fun t _ => rfl, fun k hk hne => by
    rcases h.cover k hk hne with h1 | ⟨t, ht, h1⟩
    · exact .inl h1
    · rw [← h1]; exact .inl (hF t ht)⟩
theorem SI.plain {w W : World} {gf n i j m : Nat} {S : Nat → Ent} {e : En} {P : Nat → Option Addr} (h : SI w W gf n i j m S e P) (hp : AllPlain w n S) : ∀ t, t < 8 → ∀ a, P t = some a → Plain W a.block := by
  intro t ht a ha
  rcases h.from_ t ht with h0 | ⟨k, hk, _, h1⟩
  · rw [h0] at ha; cases ha
  · rw [ha] at h1
    cases hS : S k with
    | none => rw [hS] at h1; cases h1
    | some e' =>
      rw [hS] at h1
      cases h1
      exact (hp k hk e' hS).below h.below
theorem nrm_pos {e : En} (h : nrm (some e) = true) : 0 < e.l := by
  simp only [nrm, Bool.and_eq_true, decide_eq_true_eq] at h
  exact h.1

theorem ptr_new (w : World) : PtrRow (w.alloc (.cells #[.pointer none, .pointer none, .pointer none, .pointer none, .pointer none, .pointer none, .pointer none, .pointer none] 165)) w.heap.size (fun _ => none) := by
  refine ⟨_, alloc_last _ _, rfl, fun t ht => ?_⟩
  rcases (show t = 0 ∨ t = 1 ∨ t = 2 ∨ t = 3 ∨ t = 4 ∨ t = 5 ∨ t = 6 ∨ t = 7 by omega) with rfl | rfl | rfl | rfl | rfl | rfl | rfl | rfl <;> rfl
def reset (W : World) (g : Nat) : World := (((((((W.setCell ⟨g, 0, none⟩ (.pointer none)).setCell ⟨g, 1, none⟩ (.pointer none)).setCell ⟨g, 2, none⟩ (.pointer none)).setCell ⟨g, 3, none⟩ (.pointer none)).setCell ⟨g, 4, none⟩ (.pointer none)).setCell ⟨g, 5, none⟩ (.pointer none)).setCell ⟨g, 6, none⟩ (.pointer none)).setCell ⟨g, 7, none⟩ (.pointer none)
theorem ptr_reset {W : World} {g : Nat} {P : Nat → Option Addr} (h : PtrRow W g P) : PtrRow (reset W g) g (fun _ => none) := by
  have := (((((((h.set (t := 0) (by omega) none).set (t := 1) (by omega) none).set (t := 2) (by omega) none).set (t := 3) (by omega) none).set (t := 4) (by omega) none).set (t := 5) (by omega) none).set (t := 6) (by omega) none).set (t := 7) (by omega) none
  obtain ⟨C, h1, h2, h3⟩ := this
  refine ⟨C, h1, h2, fun t ht => ?_⟩
  rw [h3 t ht]
  rcases (show t = 0 ∨ t = 1 ∨ t = 2 ∨ t = 3 ∨ t = 4 ∨ t = 5 ∨ t = 6 ∨ t = 7 by omega) with rfl | rfl | rfl | rfl | rfl | rfl | rfl | rfl <;> rfl
theorem below_reset {w W : World} {g : Nat} (h : Below w.heap.size w W) (hg : w.heap.size ≤ g) : Below w.heap.size w (reset W g) :=
  (((((((h.setCell (p := ⟨g, 0, none⟩) hg _).setCell (p := ⟨g, 1, none⟩) hg _).setCell (p := ⟨g, 2, none⟩) hg _).setCell (p := ⟨g, 3, none⟩) hg _).setCell (p := ⟨g, 4, none⟩) hg _).setCell (p := ⟨g, 5, none⟩) hg _).setCell (p := ⟨g, 6, none⟩) hg _).setCell (p := ⟨g, 7, none⟩) hg _

set_option maxRecDepth 100000 in
set_option maxHeartbeats 4000000 in
theorem shares_any (sb so n c i : Nat) (S : Nat → Ent) (e : En) (hn : n ≤ 16) (hi : i < n) (he : S i = some e) (hN : allN n S = true) (w : World) (hs : StP w (some ⟨sb, so, none⟩) n c S) (hpl : AllPlain w n S) :
    Calls Tacg.prog 78 #[.slice (some ⟨sb, so, none⟩) n c, .int .i64 i] w fun r w' => ((r = .returned (.bool true) ∧ ∃ j, j < n ∧ j ≠ i ∧ hit e (first (S j))) ∨ (r = .returned (.bool false) ∧ ∀ j, j < n → j ≠ i → ¬ hit e (first (S j)))) ∧ Below w.heap.size w w' := by
  have HS := hide hs
  have HPL := hide hpl
  have HNN := hide hN
  obtain ⟨sb', so', h0, ci0, ei0⟩ := hs.at hi
  cases h0
  rw [he] at ci0 ei0
  have HE := hide (ei0 e rfl)
  have HEP := hide (hpl i hi e he)
  have HHE := hide he
  obtain ⟨b, o, l, ce, f⟩ := e
  simp only [vOf] at ci0
  clear hs hpl hN ei0 he
  have hi' : (i : Int) < (n : Int) := by omega
  go_enter Tacg.func78, Tacg.ntmps78
  go_wp2_with fail
  -- LOOP
  have H0 : Hid (SI w (w.alloc (.cells #[.pointer none, .pointer none, .pointer none, .pointer none, .pointer none, .pointer none, .pointer none, .pointer none] 165)) w.heap.size n i 0 0 S ⟨b, o, l, ce, f⟩ (fun _ => none)) :=
    hide ⟨ptr_new w, (Below.refl _ _).alloc (Nat.le_refl _) _, fun t ht => .inl rfl, fun t _ => rfl, fun k hk => absurd hk (by omega)⟩
  obtain ⟨gf, hgf⟩ : ∃ gf, gf = w.heap.size := ⟨_, rfl⟩
  rw [← hgf] at H0 ⊢
  have HGF := hide (Nat.le_of_eq hgf.symm)
  have HGE := hide hgf
  clear hgf ci0
  generalize w.alloc (.cells #[.pointer none, .pointer none, .pointer none, .pointer none, .pointer none, .pointer none, .pointer none, .pointer none] 165) = w0 at *
  go_loopw [7, 8] (fun s7 s8 W1 => ∃ (j m : Nat) (P : Nat → Option Addr) (W : World), s7 = .int .i64 m ∧ s8 = .int .i64 j ∧ j ≤ n ∧ m < 8 ∧ (j = n → m = 0) ∧ W1 = W ∧ Hid (SI w W gf n i j m S ⟨b, o, l, ce, f⟩ P)) (fun _ s8 _ => n - (intOf s8).toNat)
  case atStart => exact ⟨0, 0, _, _, rfl, rfl, by omega, by omega, fun _ => rfl, rfl, H0⟩
  case round =>
    obtain ⟨j, m, P, W, rfl, rfl, hj, hm, hjn, hw, hI⟩ := hrel
    obtain rfl := hw.symm
    clear hw H0
    have HJN := hide hjn
    clear hjn
    by_cases cj : j < n
    · have cj' : (j : Int) < (n : Int) := by omega
      obtain ⟨sb2, so2, h0, hcj, _⟩ := (HS.out.below hI.out.below).at cj
      cases h0
      by_cases cij : j = i
      · have cB : ((j : Int) != (i : Int)) = false := by rw [cij]; simp
        have HI := hide (hI.out.skip (.inl cij))
        clear hI hcj
        by_cases m8 : m = 8
        · omega
        · have t8 : (((m : Nat) : Int) == 8) = false := by simp; omega
          by_cases m0 : m = 0
          · have t0 : ¬ ((0 : Int) < ((m : Nat) : Int)) := by omega
            go_wp2_with fail
            go_roundw
            case rel => exact ⟨j + 1, m, P, _, by go_num, by go_num, by omega, by omega, fun _ => by omega, rfl, HI⟩
            case measure => simp [intOf] <;> omega
          · have t0 : (0 : Int) < ((m : Nat) : Int) := by omega
            by_cases jn : j = n - 1
            · have tj : ((j : Int) == (n : Int) - 1) = true := by simp; omega
              have HJ := hide jn
              clear jn
              go_wp2_with fail
              refine (anyOf_any b o l ce gf f P (by have := HE.out.2.1; simpa using this) (by have := HE.out.1; simpa using this) W (HEP.out.below HI.out.below) (HI.out.plain HPL.out) (fun t ht => HI.out.row.cell ht)).mono ?_
              rintro ee w5 ⟨hh, d5, hw5⟩
              obtain rfl := hw5
              rcases hh with ⟨rfl, t, ht, hht⟩ | ⟨rfl, hF⟩
              · have HT : Hid (∃ j, j < n ∧ j ≠ i ∧ hit ⟨b, o, l, ce, f⟩ (first (S j))) := by
                  rcases HI.out.from_ t ht with h0 | ⟨k, hk, hne, h1⟩
                  · rw [h0] at hht; exact absurd hht (not_hit_none _)
                  · rw [h1] at hht; exact hide ⟨k, hk, hne, hht⟩
                clear hht
                go_wp2_with fail
                go_ret
                exact ⟨.inl ⟨rfl, HT.out⟩, below_dN HI.out.below d5⟩
              · have HF := hide hF
                clear hF
                have g0 := HI.out.row.cell (t := 0) (by omega)
                have g1 := HI.out.row.cell (t := 1) (by omega)
                have g2 := HI.out.row.cell (t := 2) (by omega)
                have g3 := HI.out.row.cell (t := 3) (by omega)
                have g4 := HI.out.row.cell (t := 4) (by omega)
                have g5 := HI.out.row.cell (t := 5) (by omega)
                have g6 := HI.out.row.cell (t := 6) (by omega)
                have g7 := HI.out.row.cell (t := 7) (by omega)
                have fz := HI.out.row.frozen
                go_wp2_with fail
                go_roundw
                case rel => exact ⟨j + 1, 0, fun _ => none, _, by first | rfl | go_num, by go_num, by omega, by omega, fun _ => rfl, rfl, hide (HI.out.flush HF.out (ptr_reset (HI.out.row.drewN (d := d5))) (below_reset (below_dN HI.out.below d5) HGF.out))⟩
                case measure => simp [intOf] <;> omega
            · have tj : ((j : Int) == (n : Int) - 1) = false := by simp; omega
              go_wp2_with fail
              go_roundw
              case rel => exact ⟨j + 1, m, P, _, by go_num, by go_num, by omega, by omega, fun _ => by omega, rfl, HI⟩
              case measure => simp [intOf] <;> omega
      · have cB : ((j : Int) != (i : Int)) = true := by simp; omega
        cases hS : S j with
        | none =>
          rw [hS] at hcj
          simp only [vOf] at hcj
          have HI := hide (hI.out.skip (.inr hS))
          clear hI hS
          by_cases m8 : m = 8
          · omega
          · have t8 : (((m : Nat) : Int) == 8) = false := by simp; omega
            by_cases m0 : m = 0
            · have t0 : ¬ ((0 : Int) < ((m : Nat) : Int)) := by omega
              go_wp2_with fail
              go_roundw
              case rel => exact ⟨j + 1, m, P, _, by go_num, by go_num, by omega, by omega, fun _ => by omega, rfl, HI⟩
              case measure => simp [intOf] <;> omega
            · have t0 : (0 : Int) < ((m : Nat) : Int) := by omega
              by_cases jn : j = n - 1
              · have tj : ((j : Int) == (n : Int) - 1) = true := by simp; omega
                have HJ := hide jn
                clear jn
                go_wp2_with fail
                refine (anyOf_any b o l ce gf f P (by have := HE.out.2.1; simpa using this) (by have := HE.out.1; simpa using this) W (HEP.out.below HI.out.below) (HI.out.plain HPL.out) (fun t ht => HI.out.row.cell ht)).mono ?_
                rintro ee w5 ⟨hh, d5, hw5⟩
                obtain rfl := hw5
                rcases hh with ⟨rfl, t, ht, hht⟩ | ⟨rfl, hF⟩
                · have HT : Hid (∃ j, j < n ∧ j ≠ i ∧ hit ⟨b, o, l, ce, f⟩ (first (S j))) := by
                    rcases HI.out.from_ t ht with h0 | ⟨k, hk, hne, h1⟩
                    · rw [h0] at hht; exact absurd hht (not_hit_none _)
                    · rw [h1] at hht; exact hide ⟨k, hk, hne, hht⟩
                  clear hht
                  go_wp2_with fail
                  go_ret
                  exact ⟨.inl ⟨rfl, HT.out⟩, below_dN HI.out.below d5⟩
                · have HF := hide hF
                  clear hF
                  have g0 := HI.out.row.cell (t := 0) (by omega)
                  have g1 := HI.out.row.cell (t := 1) (by omega)
                  have g2 := HI.out.row.cell (t := 2) (by omega)
                  have g3 := HI.out.row.cell (t := 3) (by omega)
                  have g4 := HI.out.row.cell (t := 4) (by omega)
                  have g5 := HI.out.row.cell (t := 5) (by omega)
                  have g6 := HI.out.row.cell (t := 6) (by omega)
                  have g7 := HI.out.row.cell (t := 7) (by omega)
                  have fz := HI.out.row.frozen
                  go_wp2_with fail
                  go_roundw
                  case rel => exact ⟨j + 1, 0, fun _ => none, _, by first | rfl | go_num, by go_num, by omega, by omega, fun _ => rfl, rfl, hide (HI.out.flush HF.out (ptr_reset (HI.out.row.drewN (d := d5))) (below_reset (below_dN HI.out.below d5) HGF.out))⟩
                  case measure => simp [intOf] <;> omega
              · have tj : ((j : Int) == (n : Int) - 1) = false := by simp; omega
                go_wp2_with fail
                go_roundw
                case rel => exact ⟨j + 1, m, P, _, by go_num, by go_num, by omega, by omega, fun _ => by omega, rfl, HI⟩
                case measure => simp [intOf] <;> omega
        | some e' =>
          have hpos := nrm_pos (by have := allN_at HNN.out cj; rwa [hS] at this)
          have HI := hI.out.store hm cj cij HGF.out
          have hfirst : first (S j) = some ⟨e'.b, e'.o, none⟩ := by rw [hS]; rfl
          rw [hfirst] at HI
          replace HI := hide HI
          rw [hS] at hcj
          obtain ⟨b', o', l', c', f'⟩ := e'
          simp only [vOf] at hcj
          simp only at hpos HI
          have hpos' : (0 : Int) < (l' : Int) := by omega
          have g0 := hI.out.row.cell hm
          have fz0 := hI.out.row.frozen m
          have cm' : (m : Int) < 8 := by omega
          clear hI hS hfirst
          obtain ⟨m1, hm1⟩ : ∃ m1, m1 = m + 1 := ⟨_, rfl⟩
          have em : (m : Int) + 1 = (m1 : Int) := by omega
          rw [← hm1] at HI
          have HM1 := hide hm1
          have hm2 : m1 ≤ 8 := by omega
          clear hm1
          by_cases m8 : m1 = 8
          · have t8 : (((m1 : Nat) : Int) == 8) = true := by rw [m8]; rfl
            have M8 := hide m8
            clear m8
            go_wp2_with fail
            refine (anyOf_any b o l ce gf f (fun t => if t = m then some ⟨b', o', none⟩ else P t) (by have := HE.out.2.1; simpa using this) (by have := HE.out.1; simpa using this) (W.setCell ⟨gf, m, none⟩ (.pointer (some ⟨b', o', none⟩))) (HEP.out.below HI.out.below) (HI.out.plain HPL.out) (fun t ht => HI.out.row.cell ht)).mono ?_
            rintro ee w5 ⟨hh, d5, hw5⟩
            obtain rfl := hw5
            rcases hh with ⟨rfl, t, ht, hht⟩ | ⟨rfl, hF⟩
            · have HT : Hid (∃ j, j < n ∧ j ≠ i ∧ hit ⟨b, o, l, ce, f⟩ (first (S j))) := by
                rcases HI.out.from_ t ht with h0 | ⟨k, hk, hne, h1⟩
                · rw [h0] at hht; exact absurd hht (not_hit_none _)
                · rw [h1] at hht; exact hide ⟨k, hk, hne, hht⟩
              clear hht
              go_wp2_with fail
              go_ret
              exact ⟨.inl ⟨rfl, HT.out⟩, below_dN HI.out.below d5⟩
            · have HF := hide hF
              clear hF
              have g0 := HI.out.row.cell (t := 0) (by omega)
              have g1 := HI.out.row.cell (t := 1) (by omega)
              have g2 := HI.out.row.cell (t := 2) (by omega)
              have g3 := HI.out.row.cell (t := 3) (by omega)
              have g4 := HI.out.row.cell (t := 4) (by omega)
              have g5 := HI.out.row.cell (t := 5) (by omega)
              have g6 := HI.out.row.cell (t := 6) (by omega)
              have g7 := HI.out.row.cell (t := 7) (by omega)
              have fz := HI.out.row.frozen
              go_wp2_with fail
              go_roundw
              case rel => exact ⟨j + 1, 0, fun _ => none, _, by first | rfl | go_num, by go_num, by omega, by omega, fun _ => rfl, rfl, hide (HI.out.flush HF.out (ptr_reset (HI.out.row.drewN (d := d5))) (below_reset (below_dN HI.out.below d5) HGF.out))⟩
              case measure => simp [intOf] <;> omega
          · have t8 : (((m1 : Nat) : Int) == 8) = false := by simp; omega
            by_cases m0 : m1 = 0
            · have := HM1.out; omega
            · have t0 : (0 : Int) < ((m1 : Nat) : Int) := by omega
              by_cases jn : j = n - 1
              · have tj : ((j : Int) == (n : Int) - 1) = true := by simp; omega
                have HJ := hide jn
                clear jn
                go_wp2_with fail
                refine (anyOf_any b o l ce gf f (fun t => if t = m then some ⟨b', o', none⟩ else P t) (by have := HE.out.2.1; simpa using this) (by have := HE.out.1; simpa using this) (W.setCell ⟨gf, m, none⟩ (.pointer (some ⟨b', o', none⟩))) (HEP.out.below HI.out.below) (HI.out.plain HPL.out) (fun t ht => HI.out.row.cell ht)).mono ?_
                rintro ee w5 ⟨hh, d5, hw5⟩
                obtain rfl := hw5
                rcases hh with ⟨rfl, t, ht, hht⟩ | ⟨rfl, hF⟩
                · have HT : Hid (∃ j, j < n ∧ j ≠ i ∧ hit ⟨b, o, l, ce, f⟩ (first (S j))) := by
                    rcases HI.out.from_ t ht with h0 | ⟨k, hk, hne, h1⟩
                    · rw [h0] at hht; exact absurd hht (not_hit_none _)
                    · rw [h1] at hht; exact hide ⟨k, hk, hne, hht⟩
                  clear hht
                  go_wp2_with fail
                  go_ret
                  exact ⟨.inl ⟨rfl, HT.out⟩, below_dN HI.out.below d5⟩
                · have HF := hide hF
                  clear hF
                  have g0 := HI.out.row.cell (t := 0) (by omega)
                  have g1 := HI.out.row.cell (t := 1) (by omega)
                  have g2 := HI.out.row.cell (t := 2) (by omega)
                  have g3 := HI.out.row.cell (t := 3) (by omega)
                  have g4 := HI.out.row.cell (t := 4) (by omega)
                  have g5 := HI.out.row.cell (t := 5) (by omega)
                  have g6 := HI.out.row.cell (t := 6) (by omega)
                  have g7 := HI.out.row.cell (t := 7) (by omega)
                  have fz := HI.out.row.frozen
                  go_wp2_with fail
                  go_roundw
                  case rel => exact ⟨j + 1, 0, fun _ => none, _, by first | rfl | go_num, by go_num, by omega, by omega, fun _ => rfl, rfl, hide (HI.out.flush HF.out (ptr_reset (HI.out.row.drewN (d := d5))) (below_reset (below_dN HI.out.below d5) HGF.out))⟩
                  case measure => simp [intOf] <;> omega
              · have tj : ((j : Int) == (n : Int) - 1) = false := by simp; omega
                go_wp2_with fail
                go_roundw
                case rel => exact ⟨j + 1, m1, (fun t => if t = m then some ⟨b', o', none⟩ else P t), _, by go_num, by go_num, by omega, by omega, fun _ => by omega, rfl, HI⟩
                case measure => simp [intOf] <;> omega
    · obtain rfl : n = j := by omega
      have m0 := HJN.out rfl
      subst m0
      go_wp2_with fail
      go_ret
      refine ⟨.inr ⟨rfl, fun k hk hne => ?_⟩, hI.out.below⟩
      rcases hI.out.cover k hk hne with h1 | ⟨t, ht, h1⟩
      · exact h1
      · rw [← h1, hI.out.rest t (Nat.zero_le _)]; exact not_hit_none _
end Go.Proofs.Ygctac
