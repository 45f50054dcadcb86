/-
  shew.Grow.
-/
import Derived.Test.YgctacGr10
namespace Go.Proofs.Ygctac
open Go.RowKit
open Fp (fv)
set_option linter.unusedVariables false
set_option linter.unusedSimpArgs false

theorem RowO.set {W : World} {e : TypeId} {g n c : Nat} {X : Nat → Value} (h : RowO W e (.slice (some ⟨g, 0, none⟩) n c) n X) {i : Nat} (hi : i < n) (v : Value) : RowO (W.setCell ⟨g, i, none⟩ v) e (.slice (some ⟨g, 0, none⟩) n c) n (fun j => if j = i then v else X j) := by
  rcases h with ⟨h, _⟩ | ⟨g', c', C, h1, h2, h3, h4, h5⟩
  · cases h
  · cases h1
    refine .inr ⟨g, c, C.setIfInBounds i v, rfl, h2, heap_setCell_same W g i C e _ h3, by simpa using h4, fun j hj => ?_⟩
    by_cases c1 : j = i
    · subst c1
      simp [show j < C.size by omega]
    · simp only [c1, if_false]
      rw [Array.getElem?_setIfInBounds_ne (by omega)]
      exact h5 j hj
theorem RowO.frozen {W : World} {e : TypeId} {g n c : Nat} {X : Nat → Value} (h : RowO W e (.slice (some ⟨g, 0, none⟩) n c) n X) (i : Nat) : W.frozen? ⟨g, i, none⟩ = false := by
  rcases h with ⟨h, _⟩ | ⟨g', c', C, h1, h2, h3, h4, h5⟩
  · cases h
  · cases h1
    exact RowP.frozen (P := fun _ => True) (n := C.size) ⟨C, h3, rfl, fun i hi => ⟨C[i], by simp [hi], trivial⟩⟩ i
theorem RowO.cell {W : World} {e : TypeId} {g n c : Nat} {X : Nat → Value} (h : RowO W e (.slice (some ⟨g, 0, none⟩) n c) n X) {i : Nat} (hi : i < n) : W.cell? ⟨g, i, none⟩ = some (X i) := by
  obtain ⟨b, o, h1, h2⟩ := h.slv i hi
  cases h1
  rwa [Nat.zero_add] at h2

/-! The bounds of a run of at most 1024 terms. -/
def grG : Int := 2 ^ (13 + admE)
def grK : Nat := 2034
def grD : Int := 2 ^ 2033
theorem grG_le : grG ≤ 2 ^ 53 * 2 ^ grK := by
  rw [← pp_add, grG]
  exact Int.le_of_eq rfl
theorem grD_le : 2 ^ grK ≤ 2 * grD := by
  rw [grD, show (2 : Int) * 2 ^ 2033 = 2 ^ 1 * 2 ^ 2033 from rfl, ← pp_add]
  exact Int.le_of_eq rfl
theorem grG_cap : grG ≤ (cap : Int) := by
  rw [cap, Fp.natp2_cast, grG]
  exact Fp.p2_le (by decide)
theorem gr_enter (N : Nat) (h : N ≤ 1024) : (admU : Int) + 2 * (N * (2 * admU)) ≤ grG := by
  rw [grG, pp_add, ← admU_cast]
  have h0 : (0 : Int) ≤ admU := Int.natCast_nonneg _
  generalize (admU : Int) = U at *
  have h1 : (N : Int) * (2 * U) ≤ 1024 * (2 * U) := Int.mul_le_mul_of_nonneg_right (by omega) (by omega)
  rw [show (2 : Int) ^ 13 = 8192 from rfl]
  omega
theorem grD_pos : 0 ≤ grD := Int.le_of_lt (pp 2033)
theorem grD_U (N : Nat) (h : N ≤ 1024) : 2 * (N * grD) ≤ (admU : Int) := by
  have h0 := grD_pos
  have h1 : (N : Int) * grD ≤ 1024 * grD := Int.mul_le_mul_of_nonneg_right (by omega) h0
  have h2 : (2 : Int) ^ 11 * grD = 2 ^ (11 + 2033) := by rw [grD, ← pp_add]
  have h3 : (2 : Int) ^ (11 + 2033) ≤ 2 ^ admE := Fp.p2_le (by decide)
  rw [← h2, ← admU_cast, show (2 : Int) ^ 11 = 2048 from rfl] at h3
  omega

theorem zero_fin : Fp.Fin 0 := ⟨by decide, by decide⟩
theorem order_zero {p : Nat} (h : Fp.Fin p) (h0 : fv p = 0) : (FloatKind.f64.format.order p 0 != some .eq) = false := by
  have : FloatKind.f64.format.order p 0 = some .eq := Fp.order_eq h zero_fin (by rw [h0]; decide)
  rw [this]; rfl
theorem order_some {p : Nat} (h : Fp.Fin p) (h0 : fv p ≠ 0) : (FloatKind.f64.format.order p 0 != some .eq) = true := by
  have : FloatKind.f64.format.order p 0 = some (compare (fv p) (fv 0)) := Fp.order_val h zero_fin
  rw [this, Fp.cmp_int, show fv 0 = 0 by decide]
  split
  · rfl
  · first
    | (rw [if_neg h0]; rfl)
    | rfl

/-- A growing sum's list of partials, in memory of its own from block B on: N terms taken. -/
structure PS (B : Nat) (N : Nat) (w : World) (v : Value) (n : Nat) (f : Nat → Nat) : Prop where
  row : RowO w 74 v n (flX f)
  own : ∀ b, v.ownBlock = some b → B ≤ b
  fin : ∀ i, i < n → Fp.Fin (f i)
  parts : Fp.Parts N admU (vals f 0 n)
theorem PS.len {B N : Nat} {w : World} {v : Value} {n : Nat} {f : Nat → Nat} (h : PS B N w v n f) : n ≤ N := by
  have := h.parts.len
  rwa [vals_len] at this
theorem PS.nil (B : Nat) (w : World) : PS B 0 w (.slice none 0 0) 0 (fun _ => 0) := ⟨.inl ⟨rfl, rfl⟩, (fun b h => by cases h), fun i hi => absurd hi (by omega), Fp.parts_nil _⟩
theorem below_grown {B : Nat} {a w w' : World} {row : Option Nat} (h : Below B a w) (hg : w.grownBy w' row) (hr : ∀ g, row = some g → B ≤ g) (hB : B ≤ w.heap.size) : Below B a w' :=
  ⟨hg.os.trans h.os, hg.tape.trans h.tape, hg.output.trans h.output, Nat.le_trans h.size hg.size, fun k hk => (hg.block k (by omega) (fun e => by have := hr k e.symm; omega)).trans (h.block k hk)⟩
/-- What Grow leaves. -/
def GrowR (B N : Nat) (w : World) (r : Ending) (w' : World) : Prop := ∃ v n f, r = .returned v ∧ PS B N w' v n f ∧ Below B w w'

set_option maxRecDepth 100000 in
set_option maxHeartbeats 4000000 in
theorem grow_any (B N : Nat) (hN : N < 1024) (v : Value) (n : Nat) (f : Nat → Nat) (x : Nat) (hx : Fp.Fin x) (hxU : (fv x).natAbs ≤ admU) (w : World) (hB : B ≤ w.heap.size) (h : PS B N w v n f) :
    Calls Tacg.prog 94 #[v, .float .f64 x] w fun r w' => GrowR B (N + 1) w r w' := by
  have hlen := h.len
  have HT : Hid (((fv x + Fp.tot (vals f 0 n)).natAbs : Int) ≤ (N + 1 : Nat) * admU) := by
    have h1 := h.parts.sum
    have h2 : ((N + 1 : Nat) : Int) * admU = N * admU + admU := by rw [Int.natCast_add, Int.add_mul]; simp
    unfold Hid
    generalize (N : Int) * admU = M at *
    omega
  have HG : Hid (Fp.Grow [] (fv x) (vals f 0 n) (fv x + Fp.tot (vals f 0 n)) grG grD) := h.parts.enter (Fp.fv_rep x) (by omega) (gr_enter N (by omega))
  generalize fv x + Fp.tot (vals f 0 n) = T at *
  obtain ⟨p, c, rfl⟩ := h.row.slice
  have HR0 := hide h.row
  have HO : Hid (∀ b, (Value.slice p n c).ownBlock = some b → B ≤ b) := h.own
  have HF0 := hide h.fin
  have HX0 := hide hx
  clear h hx hxU
  go_enter Tacg.func94, Tacg.ntmps94
  go_wp2_with fail
  go_loopw [1, 5, 6] (fun s1 s5 s6 w1 => ∃ (x k i : Nat) (h : Nat → Nat) (W : World), s1 = .float .f64 x ∧ s5 = .int .i64 k ∧ s6 = .int .i64 i ∧ k ≤ i ∧ i ≤ n ∧ w1 = W ∧ Hid (RowO W 74 (.slice p n c) n (flX h)) ∧ Hid (∀ j, j < n → Fp.Fin (h j)) ∧ Hid (Fp.Fin x) ∧ Hid (Fp.Grow (vals h 0 k) (fv x) (vals h i (n - i)) T grG grD) ∧ Hid (Below B w W)) (fun _ _ s6 _ => n - (intOf s6).toNat)
  case atStart => exact ⟨x, 0, 0, f, _, rfl, rfl, rfl, Nat.le_refl _, by omega, rfl, HR0, HF0, HX0, HG, hide (Below.refl _ _)⟩
  case round =>
    clear HR0 HF0 HX0 HG
    obtain ⟨x, k, i, h, W, rfl, rfl, rfl, hki, hi, hw, HR, HF, HX, HG, hB⟩ := hrel
    obtain rfl := hw.symm
    clear hw
    by_cases ci : i < n
    · have c' : (i : Int) < (n : Int) := by omega
      obtain ⟨g, rfl⟩ : ∃ g, p = some ⟨g, 0, none⟩ := by
        rcases HR.out with ⟨_, h0⟩ | ⟨g, c', C, h1, _⟩
        · omega
        · cases h1; exact ⟨g, rfl⟩
      have hcx := HR.out.cell ci
      simp only [flX] at hcx
      have hck := HR.out.cell (i := k) (by omega)
      simp only [flX] at hck
      have hfk := HR.out.frozen k
      have HG1 : Hid (Fp.Grow (vals h 0 k) (fv x) (fv (h i) :: vals h (i + 1) (n - (i + 1))) T grG grD) := by
        have := HG.out
        rwa [show n - i = n - (i + 1) + 1 by omega, vals] at this
      have hbn := HG1.out.bnd
      have hs0 := Fp.siz_nonneg (vals h (i + 1) (n - (i + 1)))
      have hcap := grG_cap
      simp only [Fp.siz] at hbn
      obtain ⟨s, e, hse, fs, fe, ee, es⟩ := sums_exact HX.out (HF.out i ci) (by omega) (by omega)
      have hnear : Fp.Near (fv x + fv (h i)) 1 (fv s) := by rw [es]; exact Fp.rnd_near1 _
      have HG2 := hide (HG1.out.step hnear grK grG_le grD_le)
      have HSE := hide hse
      have HFS := hide fs
      have HFE := hide fe
      clear hbn hs0 hcap hse fs hnear es HG HG1
      by_cases e0 : fv e = 0
      · have ho := order_zero fe e0
        rw [if_pos (by omega)] at HG2
        clear ee fe
        go_wp2_with (go_at_call 126; refine (sums_any HSE.out _).mono ?_; rintro e1 w' ⟨rfl, hw⟩; obtain rfl := hw.symm; clear hw)
        go_roundw
        case rel => exact ⟨s, k, i + 1, h, _, rfl, rfl, by go_num, by omega, by omega, rfl, HR, HF, HFS, HG2, hB⟩
        case measure => simp [intOf] <;> omega
      · have ho := order_some fe e0
        have hkn : (k : Int) < (n : Int) := by omega
        rw [if_neg (by omega), ← ee] at HG2
        have HN : Hid (RowO (W.setCell ⟨g, k, none⟩ (.float .f64 e)) 74 (.slice (some ⟨g, 0, none⟩) n c) n (flX (fun j => if j = k then e else h j))) := by
          refine (HR.out.set (i := k) (by omega) (.float .f64 e)).congr fun j hj => ?_
          unfold flX
          by_cases e : j = k <;> simp [e]
        have HN2 : Hid (∀ j, j < n → Fp.Fin (if j = k then e else h j)) := fun j hj => by
          by_cases e : j = k
          · simp only [e, if_true]; exact HFE.out
          · simp only [e, if_false]; exact HF.out j hj
        have HG3 : Hid (Fp.Grow (vals (fun j => if j = k then e else h j) 0 (k + 1)) (fv s) (vals (fun j => if j = k then e else h j) (i + 1) (n - (i + 1))) T grG grD) := by
          unfold Hid
          rw [vals_last, vals_congr (g := h) k 0 (fun j hj => by simp only [Nat.zero_add]; rw [if_neg (by omega)]), vals_congr (f := fun j => if j = k then e else h j) (g := h) (n - (i + 1)) (i + 1) (fun j hj => by show (if i + 1 + j = k then e else h (i + 1 + j)) = _; rw [if_neg (by omega)])]
          simpa using HG2.out
        have hB2 := hide (hB.out.setCell (p := ⟨g, k, none⟩) (HO.out g rfl) (.float .f64 e))
        clear ee fe HG2
        go_wp2_with (go_at_call 126; refine (sums_any HSE.out _).mono ?_; rintro e1 w' ⟨rfl, hw⟩; obtain rfl := hw.symm; clear hw)
        go_roundw
        case rel => exact ⟨s, k + 1, i + 1, _, _, rfl, by go_num, by go_num, by omega, by omega, rfl, HN, HN2, HFS, HG3, hB2⟩
        case measure => simp [intOf] <;> omega
    · obtain rfl : i = n := by omega
      rw [Nat.sub_self] at HG
      have HG : Hid (Fp.Grow (vals h 0 k) (fv x) [] T grG grD) := HG
      have hkn : (k : Int) ≤ (i : Int) := by omega
      rcases HR.out with ⟨h1, h2⟩ | ⟨g, c', C, h1, h2, -⟩
      · cases h1
        obtain rfl : k = 0 := by omega
        by_cases x0 : fv x = 0
        · have ho := order_zero HX.out x0
          have HP := hide (Fp.Parts.leave (N := N) (U := admU) HG.out HT.out (by rw [vals_len]; omega) grD_pos (grD_U N (by omega)) (Int.natCast_nonneg _))
          rw [if_pos x0] at HP
          go_wp2_with fail
          go_ret
          exact ⟨_, 0, h, rfl, ⟨HR.out.cut (by omega), HO.out, fun i hi => HF.out i (by omega), HP.out⟩, hB.out⟩
        · have ho := order_some HX.out x0
          have HP := hide (Fp.Parts.leave (N := N) (U := admU) HG.out HT.out (by rw [vals_len]; omega) grD_pos (grD_U N (by omega)) (Int.natCast_nonneg _))
          rw [if_neg x0] at HP
          have hA : Below W.heap.size W (W.alloc (.cells #[.float .f64 x] 74)) := (Below.refl _ _).alloc (Nat.le_refl _) _
          have hrow : RowO (W.alloc (.cells #[.float .f64 x] 74)) 74 (.slice none 0 0) 0 (flX h) := (HR.out.cut (m := 0) (by omega)).moved fun b C hb hC => (hA.block _ (heap_lt hC)).trans hC
          obtain ⟨v', w2, hr, hR, hG, hBl⟩ := append_one (W.alloc (.cells #[.float .f64 x] 74)) 47 47 74 (.float .f64 0) 8 Tacg.underlying47 info74 rfl (by decide) (.slice none 0 0) 0 _ hrow (by omega) (by omega) ⟨W.heap.size, 0, none⟩ (.float .f64 x) (cell_of (alloc_last _ _) rfl) rfl
          have HF2 : Hid (PS B (N + 1) w2 v' (0 + 1) (fun i => if i = 0 then x else h i) ∧ Below B w w2) := by
            have hsz := hB.out.size
            have hBW : Below B w (W.alloc (.cells #[.float .f64 x] 74)) := hB.out.alloc (by omega) _
            refine ⟨⟨hR.congr fun i hi => ?_, fun b hb => ?_, fun i hi => ?_, ?_⟩, below_grown hBW hG HO.out (by have := hA.size; omega)⟩
            · unfold flX
              by_cases e : i = 0 <;> simp [e]
            · rcases hBl with hBl | ⟨g', hg', hle⟩
              · rw [hBl] at hb; exact HO.out b hb
              · rw [hg'] at hb; cases hb
                have := hA.size
                omega
            · by_cases e : i = 0
              · simp only [e, if_true]; exact HX.out
              · simp only [e, if_false]; exact HF.out i (by omega)
            · have e1 : vals (fun i => if i = 0 then x else h i) 0 (0 + 1) = vals h 0 0 ++ [fv x] := by
                rw [vals_last, vals_congr (g := h) 0 0 (fun j hj => by simp only [Nat.zero_add]; rw [if_neg (by omega)])]
                simp
              rw [e1]
              exact HP.out
          obtain ⟨p1, c1, rfl⟩ := hR.slice
          have HRR := hide hr
          clear hr hR hG hBl hrow hA
          go_wp2_with (at_builtin; refine wpList_append_run rfl (.tmp 38) (.tmp 40) 47 rfl rfl rfl HRR.out ?_)
          go_ret
          exact ⟨_, 0 + 1, _, rfl, HF2.out.1, HF2.out.2⟩
      · cases h1
        have hkc : (k : Int) ≤ (c : Int) := by omega
        by_cases x0 : fv x = 0
        · have ho := order_zero HX.out x0
          have HP := hide (Fp.Parts.leave (N := N) (U := admU) HG.out HT.out (by rw [vals_len]; omega) grD_pos (grD_U N (by omega)) (Int.natCast_nonneg _))
          rw [if_pos x0] at HP
          go_wp2_with fail
          go_ret
          exact ⟨_, k, h, rfl, ⟨HR.out.cut (by omega), HO.out, fun i hi => HF.out i (by omega), HP.out⟩, hB.out⟩
        · have ho := order_some HX.out x0
          have HP := hide (Fp.Parts.leave (N := N) (U := admU) HG.out HT.out (by rw [vals_len]; omega) grD_pos (grD_U N (by omega)) (Int.natCast_nonneg _))
          rw [if_neg x0] at HP
          have hA : Below W.heap.size W (W.alloc (.cells #[.float .f64 x] 74)) := (Below.refl _ _).alloc (Nat.le_refl _) _
          have hrow : RowO (W.alloc (.cells #[.float .f64 x] 74)) 74 (.slice (some ⟨g, 0, none⟩) k c) k (flX h) := (HR.out.cut (m := k) (by omega)).moved fun b C hb hC => (hA.block _ (heap_lt hC)).trans hC
          obtain ⟨v', w2, hr, hR, hG, hBl⟩ := append_one (W.alloc (.cells #[.float .f64 x] 74)) 47 47 74 (.float .f64 0) 8 Tacg.underlying47 info74 rfl (by decide) (.slice (some ⟨g, 0, none⟩) k c) k _ hrow (by omega) (by omega) ⟨W.heap.size, 0, none⟩ (.float .f64 x) (cell_of (alloc_last _ _) rfl) rfl
          have HF2 : Hid (PS B (N + 1) w2 v' (k + 1) (fun i => if i = k then x else h i) ∧ Below B w w2) := by
            have hsz := hB.out.size
            have hBW : Below B w (W.alloc (.cells #[.float .f64 x] 74)) := hB.out.alloc (by omega) _
            refine ⟨⟨hR.congr fun i hi => ?_, fun b hb => ?_, fun i hi => ?_, ?_⟩, below_grown hBW hG HO.out (by have := hA.size; omega)⟩
            · unfold flX
              by_cases e : i = k <;> simp [e]
            · rcases hBl with hBl | ⟨g', hg', hle⟩
              · rw [hBl] at hb; exact HO.out b hb
              · rw [hg'] at hb; cases hb
                have := hA.size
                omega
            · by_cases e : i = k
              · simp only [e, if_true]; exact HX.out
              · simp only [e, if_false]; exact HF.out i (by omega)
            · have e1 : vals (fun i => if i = k then x else h i) 0 (k + 1) = vals h 0 k ++ [fv x] := by
                rw [vals_last, vals_congr (g := h) k 0 (fun j hj => by simp only [Nat.zero_add]; rw [if_neg (by omega)])]
                simp
              rw [e1]
              exact HP.out
          obtain ⟨p1, c1, rfl⟩ := hR.slice
          have HRR := hide hr
          clear hr hR hG hBl hrow hA
          go_wp2_with (at_builtin; refine wpList_append_run rfl (.tmp 38) (.tmp 40) 47 rfl rfl rfl HRR.out ?_)
          go_ret
          exact ⟨_, k + 1, _, rfl, HF2.out.1, HF2.out.2⟩
end Go.Proofs.Ygctac
