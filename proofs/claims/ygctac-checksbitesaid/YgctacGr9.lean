/-
  Rows of our own; law.floats, law.admitted, law.unread, law.patterns.
-/
import Derived.Test.YgctacGr8
import Derived.Test.YgctacDD2
import Derived.Test.YgctacKm11
namespace Go.Proofs.Ygctac
open Go.RowKit
open Fp (fv)
set_option linter.unusedVariables false
set_option linter.unusedSimpArgs false

/-- A row of our own: n cells, read as X. -/
def ARow (w : World) (g n : Nat) (t : TypeId) (X : Nat → Value) : Prop := ∃ C : Array Value, w.heap[g]? = some (.cells C t (0, 0)) ∧ C.size = n ∧ ∀ i, i < n → C[i]? = some (X i)
theorem ARow.cell {w : World} {g n : Nat} {t : TypeId} {X : Nat → Value} (h : ARow w g n t X) {i : Nat} (hi : i < n) : w.cell? ⟨g, i, none⟩ = some (X i) := by
  obtain ⟨C, h1, h2, h3⟩ := h
  rw [World.cell?, h1]
  exact h3 i hi
theorem ARow.frozen {w : World} {g n : Nat} {t : TypeId} {X : Nat → Value} (h : ARow w g n t X) (i : Nat) : w.frozen? ⟨g, i, none⟩ = false := by
  obtain ⟨C, h1, h2, h3⟩ := h
  exact RowP.frozen (P := fun _ => True) (n := n) ⟨C, h1, h2, fun i hi => ⟨_, h3 i hi, trivial⟩⟩ i
theorem ARow.lt {w : World} {g n : Nat} {t : TypeId} {X : Nat → Value} (h : ARow w g n t X) : g < w.heap.size := by
  obtain ⟨C, h1, h2, h3⟩ := h
  exact RowP.lt (P := fun _ => True) (n := n) ⟨C, h1, h2, fun i hi => ⟨_, h3 i hi, trivial⟩⟩
theorem ARow.below {w w' : World} {g n B : Nat} {t : TypeId} {X : Nat → Value} (h : ARow w g n t X) (hb : Below B w w') (hB : g < B) : ARow w' g n t X := by
  obtain ⟨C, h1, h2⟩ := h
  exact ⟨C, (hb.block g hB).trans h1, h2⟩
theorem ARow.after {w w' : World} {g n : Nat} {t : TypeId} {X : Nat → Value} (h : ARow w g n t X) (hb : Below w.heap.size w w') : ARow w' g n t X := h.below hb h.lt
theorem ARow.set {w : World} {g n : Nat} {t : TypeId} {X : Nat → Value} (h : ARow w g n t X) {i : Nat} (hi : i < n) (v : Value) : ARow (w.setCell ⟨g, i, none⟩ v) g n t (fun j => if j = i then v else X j) := by
  obtain ⟨C, h1, h2, h3⟩ := h
  refine ⟨C.setIfInBounds i v, heap_setCell_same w g i C t _ h1, by simpa using h2, fun j hj => ?_⟩
  by_cases e : j = i
  · subst e
    simp [show j < C.size by omega]
  · simp only [e, if_false]
    rw [Array.getElem?_setIfInBounds_ne (by omega)]
    exact h3 j hj
theorem ARow.congr {w : World} {g n : Nat} {t : TypeId} {X Y : Nat → Value} (h : ARow w g n t X) (e : ∀ i, i < n → X i = Y i) : ARow w g n t Y := by
  obtain ⟨C, h1, h2, h3⟩ := h
  exact ⟨C, h1, h2, fun i hi => by rw [← e i hi]; exact h3 i hi⟩
theorem ARow.new (w : World) (n : Nat) (t : TypeId) (v : Value) : ARow (w.alloc (.cells (madeCells #[v] n) t)) w.heap.size n t (fun _ => v) := by
  refine ⟨_, alloc_last _ _, by simp [madeCells], fun i hi => ?_⟩
  simp [madeCells, hi, Nat.mod_one]
theorem ARow.slv {w : World} {g n : Nat} {t : TypeId} {X : Nat → Value} (h : ARow w g n t X) : SlV w (some ⟨g, 0, none⟩) n X := fun i hi => ⟨g, 0, rfl, by rw [Nat.zero_add]; exact h.cell hi⟩
theorem ARow.rowO {w : World} {g n : Nat} {t : TypeId} {X : Nat → Value} (h : ARow w g n t X) : RowO w t (.slice (some ⟨g, 0, none⟩) n n) n X := by
  obtain ⟨C, h1, h2, h3⟩ := h
  exact .inr ⟨g, n, C, rfl, Nat.le_refl _, h1, h2, h3⟩
theorem RowO.slv {W : World} {e : TypeId} {p : Option Addr} {n c : Nat} {X : Nat → Value} (h : RowO W e (.slice p n c) n X) : SlV W p n X := fun i hi => by
  rcases h with ⟨_, h⟩ | ⟨g, c', C, h1, h2, h3, h4, h5⟩
  · omega
  · cases h1
    refine ⟨g, 0, rfl, ?_⟩
    rw [Nat.zero_add, World.cell?, h3]
    exact h5 i hi

theorem info74 : (Tacg.prog.info? 74).map (fun i => (i.zero, i.size, i.bytes)) = some (some (.float .f64 0), 1, 8) := by kernel_rfl
theorem info65 : (Tacg.prog.info? 65).map (fun i => (i.zero, i.size, i.bytes)) = some (some (.int .u64 0), 1, 8) := by kernel_rfl
theorem make47 (n : Nat) (hn : n ≤ 4096) (w : World) : (Instr.makeSlice 47 (.int .i64 (n : Int)) (.int .i64 (n : Int))).run Tacg.prog w = .ok (.slice (some ⟨w.heap.size, 0, none⟩) n n) (w.alloc (.cells (madeCells #[.float .f64 0] n) 74)) :=
  run_make_row' (P := Tacg.prog) 47 74 (.float .f64 0) 8 Tacg.underlying47 info74 rfl .i64 .i64 n (by omega) (by omega) w
theorem make46 (n : Nat) (hn : n ≤ 4096) (w : World) : (Instr.makeSlice 46 (.int .i64 (n : Int)) (.int .i64 (n : Int))).run Tacg.prog w = .ok (.slice (some ⟨w.heap.size, 0, none⟩) n n) (w.alloc (.cells (madeCells #[.int .u64 0] n) 65)) :=
  run_make_row' (P := Tacg.prog) 46 65 (.int .u64 0) 8 Tacg.underlying46 info65 rfl .i64 .i64 n (by omega) (by omega) w

@[simp, go_sem] theorem eqNil46 (w : World) (a : Option Addr) (n c : Nat) : (binOp .eql 46 (.slice a n c) (.slice none 0 0)).run Tacg.prog w = .ok (.bool a.isNone) w := Lib.run_eql_slice_nil w _ _ _ _ _ _ _ Tacg.underlying46
/-- A row whose first i entries are done. -/
def upTo (i : Nat) (X Y : Nat → Value) : Nat → Value := fun j => if j < i then X j else Y j
theorem ARow.push {w : World} {g n : Nat} {t : TypeId} {X Y : Nat → Value} {i : Nat} (h : ARow w g n t (upTo i X Y)) (hi : i < n) {v : Value} (hv : v = X i) : ARow (w.setCell ⟨g, i, none⟩ v) g n t (upTo (i + 1) X Y) := by
  refine (h.set hi v).congr fun j hj => ?_
  unfold upTo
  by_cases c : j = i
  · subst c
    rw [if_pos rfl, if_pos (by omega), hv]
  · rw [if_neg c]
    by_cases c2 : j < i
    · rw [if_pos c2, if_pos (by omega)]
    · rw [if_neg c2, if_neg (by omega)]
theorem ARow.full {w : World} {g n : Nat} {t : TypeId} {X Y : Nat → Value} (h : ARow w g n t (upTo n X Y)) : ARow w g n t X := h.congr fun i hi => by rw [upTo, if_pos hi]
theorem ARow.none {w : World} {g n : Nat} {t : TypeId} {X Y : Nat → Value} (h : ARow w g n t Y) : ARow w g n t (upTo 0 X Y) := h.congr fun i hi => by rw [upTo, if_neg (by omega)]

set_option maxRecDepth 100000 in
set_option maxHeartbeats 4000000 in
theorem floats_any (p : Option Addr) (n c : Nat) (f : Nat → Nat) (hn : n < 140737488355328) (hc : n ≤ c) (w : World) (hs : SlV w p n (ulX f)) :
    Calls Tacg.prog 28 #[.slice p n c, .int .i64 1024] w fun r w' => r = .returned (.slice (some ⟨w.heap.size, 0, none⟩) (min n 1024) (min n 1024)) ∧ ARow w' w.heap.size (min n 1024) 74 (flX f) ∧ Below w.heap.size w w' := by
  by_cases hbig : 1024 < n
  · rw [show min n 1024 = 1024 by omega]
    have t1 : (1024 : Int) < (n : Int) := by omega
    have t2 : (1024 : Int) ≤ (c : Int) := by omega
    have rm : ∀ w : World, (Instr.makeSlice 47 (.int .i64 1024) (.int .i64 1024)).run Tacg.prog w = .ok (.slice (some ⟨w.heap.size, 0, none⟩) 1024 1024) (w.alloc (.cells (madeCells #[.float .f64 0] 1024) 74)) := make47 1024 (by omega)
    obtain ⟨b, o, rfl, -⟩ := hs 0 (by omega)
    have HS := hide hs
    clear hs
    go_enter Tacg.func28, Tacg.ntmps28
    go_wp2_with fail
    go_loopw [6] (fun s6 w1 => ∃ (i : Nat) (W : World), s6 = .int .i64 i ∧ i ≤ 1024 ∧ w1 = W ∧ Hid (ARow W w.heap.size 1024 74 (upTo i (flX f) fun _ => .float .f64 0)) ∧ Hid (Below w.heap.size w W)) (fun s6 _ => 1024 - (intOf s6).toNat)
    case atStart => exact ⟨0, _, rfl, by omega, rfl, hide (ARow.new w 1024 74 _).none, hide ((Below.refl _ _).alloc (Nat.le_refl _) _)⟩
    case round =>
      obtain ⟨i, W, rfl, hi, hw, hR, hB⟩ := hrel
      obtain rfl := hw.symm
      clear hw rm
      by_cases ci : i < 1024
      · have c' : (i : Int) < 1024 := by omega
        obtain ⟨b2, o2, hp, hcx⟩ := (HS.out.below hB.out) i (by omega)
        simp only [ulX] at hcx
        have hcy := hR.out.cell ci
        rw [upTo, if_neg (by omega)] at hcy
        have hfy := hR.out.frozen i
        cases hp
        go_wp2_with (go_at_call 47; refine (f64_any _ _).mono ?_; rintro e1 w' ⟨rfl, hw⟩; obtain rfl := hw.symm; clear hw)
        go_roundw
        case rel => exact ⟨i + 1, _, by go_num, by omega, rfl, hide (hR.out.push ci rfl), hide (hB.out.setCell (p := ⟨w.heap.size, i, none⟩) (Nat.le_refl _) _)⟩
        case measure => simp [intOf] <;> omega
      · obtain rfl : i = 1024 := by omega
        go_wp2_with fail
        go_ret
        exact ⟨rfl, hR.out.full, hB.out⟩

  · rw [show min n 1024 = n by omega]
    have t1 : ¬ (1024 : Int) < (n : Int) := by omega
    have rm := make47 n (by omega)
    have HS := hide hs
    clear hs
    go_enter Tacg.func28, Tacg.ntmps28
    go_wp2_with fail
    go_loopw [6] (fun s6 w1 => ∃ (i : Nat) (W : World), s6 = .int .i64 i ∧ i ≤ n ∧ w1 = W ∧ Hid (ARow W w.heap.size n 74 (upTo i (flX f) fun _ => .float .f64 0)) ∧ Hid (Below w.heap.size w W)) (fun s6 _ => n - (intOf s6).toNat)
    case atStart => exact ⟨0, _, rfl, by omega, rfl, hide (ARow.new w n 74 _).none, hide ((Below.refl _ _).alloc (Nat.le_refl _) _)⟩
    case round =>
      obtain ⟨i, W, rfl, hi, hw, hR, hB⟩ := hrel
      obtain rfl := hw.symm
      clear hw rm
      by_cases ci : i < n
      · have c' : (i : Int) < (n : Int) := by omega
        obtain ⟨b2, o2, hp, hcx⟩ := (HS.out.below hB.out) i (by omega)
        simp only [ulX] at hcx
        have hcy := hR.out.cell ci
        rw [upTo, if_neg (by omega)] at hcy
        have hfy := hR.out.frozen i
        subst hp
        go_wp2_with (go_at_call 47; refine (f64_any _ _).mono ?_; rintro e1 w' ⟨rfl, hw⟩; obtain rfl := hw.symm; clear hw)
        go_roundw
        case rel => exact ⟨i + 1, _, by go_num, by omega, rfl, hide (hR.out.push ci rfl), hide (hB.out.setCell (p := ⟨w.heap.size, i, none⟩) (Nat.le_refl _) _)⟩
        case measure => simp [intOf] <;> omega
      · obtain rfl : i = n := by omega
        go_wp2_with fail
        go_ret
        exact ⟨rfl, hR.out.full, hB.out⟩


set_option maxRecDepth 100000 in
set_option maxHeartbeats 4000000 in
theorem unread_any (p : Option Addr) (n c : Nat) (f : Nat → Nat) (hn : n ≤ 2098) (w : World) (hs : SlV w p n (flX f)) :
    Calls Tacg.prog 95 #[.slice p n c] w fun r w' => r = .returned (.slice (some ⟨w.heap.size, 0, none⟩) n n) ∧ ARow w' w.heap.size n 65 (ulX f) ∧ Below w.heap.size w w' := by
    have rm := make46 n (by omega)
    have HS := hide hs
    clear hs
    go_enter Tacg.func95, Tacg.ntmps95
    go_wp2_with fail
    go_loopw [4] (fun s6 w1 => ∃ (i : Nat) (W : World), s6 = .int .i64 i ∧ i ≤ n ∧ w1 = W ∧ Hid (ARow W w.heap.size n 65 (upTo i (ulX f) fun _ => .int .u64 0)) ∧ Hid (Below w.heap.size w W)) (fun s6 _ => n - (intOf s6).toNat)
    case atStart => exact ⟨0, _, rfl, by omega, rfl, hide (ARow.new w n 65 _).none, hide ((Below.refl _ _).alloc (Nat.le_refl _) _)⟩
    case round =>
      obtain ⟨i, W, rfl, hi, hw, hR, hB⟩ := hrel
      obtain rfl := hw.symm
      clear hw rm
      by_cases ci : i < n
      · have c' : (i : Int) < (n : Int) := by omega
        obtain ⟨b2, o2, hp, hcx⟩ := (HS.out.below hB.out) i (by omega)
        simp only [flX] at hcx
        have hcy := hR.out.cell ci
        rw [upTo, if_neg (by omega)] at hcy
        have hfy := hR.out.frozen i
        subst hp
        go_wp2_with (go_at_call 69; refine (b64_any _ _).mono ?_; rintro e1 w' ⟨rfl, hw⟩; obtain rfl := hw.symm; clear hw)
        go_roundw
        case rel => exact ⟨i + 1, _, by go_num, by omega, rfl, hide (hR.out.push ci rfl), hide (hB.out.setCell (p := ⟨w.heap.size, i, none⟩) (Nat.le_refl _) _)⟩
        case measure => simp [intOf] <;> omega
      · obtain rfl : i = n := by omega
        go_wp2_with fail
        go_ret
        exact ⟨rfl, hR.out.full, hB.out⟩


set_option maxRecDepth 100000 in
set_option maxHeartbeats 4000000 in
theorem patterns_any (g n : Nat) (f : Nat → Nat) (hn : n ≤ 2098) (w : World) (hs : ARow w g n 65 (ulX f)) :
    Calls Tacg.prog 142 #[.slice (some ⟨g, 0, none⟩) n n, .int .i64 0] w fun r w' => r = .returned (.slice (some ⟨w.heap.size, 0, none⟩) n n) ∧ ARow w' w.heap.size n 74 (flX f) ∧ Below w.heap.size w w' := by
    have rm := make47 n (by omega)
    have HS := hide hs.slv
    clear hs
    go_enter Tacg.func142, Tacg.ntmps142
    go_wp2_with fail
    go_loopw [6] (fun s6 w1 => ∃ (i : Nat) (W : World), s6 = .int .i64 i ∧ i ≤ n ∧ w1 = W ∧ Hid (ARow W w.heap.size n 74 (upTo i (flX f) fun _ => .float .f64 0)) ∧ Hid (Below w.heap.size w W)) (fun s6 _ => n - (intOf s6).toNat)
    case atStart => exact ⟨0, _, rfl, by omega, rfl, hide (ARow.new w n 74 _).none, hide ((Below.refl _ _).alloc (Nat.le_refl _) _)⟩
    case round =>
      obtain ⟨i, W, rfl, hi, hw, hR, hB⟩ := hrel
      obtain rfl := hw.symm
      clear hw rm
      by_cases ci : i < n
      · have c' : (i : Int) < (n : Int) := by omega
        obtain ⟨b2, o2, hp, hcx⟩ := (HS.out.below hB.out) i (by omega)
        simp only [ulX] at hcx
        have hcy := hR.out.cell ci
        rw [upTo, if_neg (by omega)] at hcy
        have hfy := hR.out.frozen i
        cases hp
        rw [Nat.zero_add] at hcx
        go_wp2_with (go_at_call 47; refine (f64_any _ _).mono ?_; rintro e1 w' ⟨rfl, hw⟩; obtain rfl := hw.symm; clear hw)
        go_roundw
        case rel => exact ⟨i + 1, _, by go_num, by omega, rfl, hide (hR.out.push ci rfl), hide (hB.out.setCell (p := ⟨w.heap.size, i, none⟩) (Nat.le_refl _) _)⟩
        case measure => simp [intOf] <;> omega
      · obtain rfl : i = n := by omega
        go_wp2_with fail
        go_ret
        exact ⟨rfl, hR.out.full, hB.out⟩


/-- The list is admitted. -/
def admB (f : Nat → Nat) : Nat → Nat → Bool
  | _, 0 => true
  | i, n + 1 => atMostB (f i) 1000 && admB f (i + 1) n
theorem admB_of {f : Nat → Nat} : ∀ (n i : Nat), admB f i n = true → ∀ j, j < n → atMostB (f (i + j)) 1000 = true
  | 0, _, _, _, h => absurd h (by omega)
  | n + 1, i, h, j, hj => by
    rw [admB, Bool.and_eq_true] at h
    cases j with
    | zero => exact h.1
    | succ j => rw [show i + (j + 1) = i + 1 + j by omega]; exact admB_of n (i + 1) h.2 j (by omega)
theorem adm_cast {x : Nat} (e : Nat) (h : x ≤ 2 ^ e) (he : e = admE) : x ≤ admU := by subst he; exact h
theorem adm_of {f : Nat → Nat} {n : Nat} (hf : ∀ i, i < n → f i < 18446744073709551616) (h : admB f 0 n = true) : Adm f n := fun i hi => by
  have := admB_of n 0 h i hi
  rw [Nat.zero_add] at this
  obtain ⟨h1, h2⟩ := atMost_iff (hf i hi) 1000 this
  exact ⟨hf i hi, h1, adm_cast _ h2 rfl⟩
set_option maxRecDepth 100000 in
set_option maxHeartbeats 4000000 in
theorem admitted_any (p : Option Addr) (n c : Nat) (f : Nat → Nat) (hn : n ≤ 1024) (hf : ∀ i, i < n → f i < 18446744073709551616) (w : World) (hs : SlV w p n (flX f)) :
    Calls Tacg.prog 29 #[.slice p n c] w fun r w' => r = .returned (.bool (admB f 0 n)) ∧ w' = w := by
  have t1 : ¬ (1024 : Int) < (n : Int) := by omega
  have HF := hide hf
  have HS := hide hs
  clear hf hs
  go_enter Tacg.func29, Tacg.ntmps29
  go_wp2_with fail
  go_loopw [3] (fun s6 w1 => ∃ (i : Nat), s6 = .int .i64 i ∧ i ≤ n ∧ w1 = w ∧ Hid (admB f 0 n = admB f i (n - i))) (fun s6 _ => n - (intOf s6).toNat)
  case atStart => exact ⟨0, rfl, by omega, rfl, hide rfl⟩
  case round =>
    obtain ⟨i, rfl, hi, hw, hR⟩ := hrel
    obtain rfl := hw.symm
    clear hw
    by_cases ci : i < n
    · have c' : (i : Int) < (n : Int) := by omega
      obtain ⟨b2, o2, rfl, hcx⟩ := HS.out i ci
      simp only [flX] at hcx
      have HE : Hid (admB f i (n - i) = (atMostB (f i) 1000 && admB f (i + 1) (n - (i + 1)))) := by
        unfold Hid
        rw [show n - i = n - (i + 1) + 1 by omega, admB]
      cases hb : atMostB (f i) 1000 with
      | true =>
        go_wp2_with fail
        refine (atMost_any _ (HF.out i ci) _ _).mono ?_
        rintro e w' ⟨rfl, hw⟩; obtain rfl := hw.symm; clear hw
        rw [hb]
        go_wp2_with fail
        go_roundw
        case rel => exact ⟨i + 1, by go_num, by omega, trivial, hide (by rw [hR.out, HE.out, hb]; rfl)⟩
        case measure => simp [intOf] <;> omega
      | false =>
        go_wp2_with fail
        refine (atMost_any _ (HF.out i ci) _ _).mono ?_
        rintro e w' ⟨rfl, hw⟩; obtain rfl := hw.symm; clear hw
        rw [hb]
        go_wp2_with fail
        go_ret
        exact ⟨by rw [hR.out, HE.out, hb]; rfl, rfl⟩
    · obtain rfl : i = n := by omega
      go_wp2_with fail
      go_ret
      exact ⟨by rw [hR.out, Nat.sub_self]; rfl, rfl⟩
end Go.Proofs.Ygctac
