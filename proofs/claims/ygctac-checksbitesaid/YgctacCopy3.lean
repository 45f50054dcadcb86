/-
  calc.take, push and Step at one push, whatever is pushed.
-/
import Derived.Test.YgctacCopy2
namespace Go.Proofs.Ygctac
open Go.RowKit
set_option linter.unusedVariables false
set_option linter.unusedSimpArgs false

theorem Dig.cut {w : World} {b o n c : Nat} {f : Nat → Int} (h : Cells w b o n f) (hn : 512 < n) : Dig w (.slice (some ⟨b, o, none⟩) 512 512) 512 f :=
  .inr ⟨b, o, 512, rfl, Nat.le_refl _, fun i hi => h i (by omega)⟩
theorem calcTake {v : Value} {n : Nat} {f : Nat → Int} (hn : n ≤ 140737488355328) (w : World) (h : Dig w v n f) :
    Calls Tacg.prog 82 #[v] w fun r w' => ∃ x, r = .returned x ∧ NatO w' x w.heap.size (top f (min n 512)) f ∧ Below w.heap.size w w' := by
  have e0 : ∀ m, m ≤ 512 → min m 1024 = m := fun m hm => by omega
  rcases h with ⟨⟨p, rfl⟩, rfl⟩ | ⟨b, o, c, rfl, h3, h4⟩
  · have HD := hide (show Dig w (.slice p 0 0) 0 f from .inl ⟨⟨p, rfl⟩, rfl⟩)
    go_enter Tacg.func82, Tacg.ntmps82
    go_wp2_with fail
    refine (take_dig hn _ HD.out).mono ?_
    rintro e w' ⟨x, rfl, hx, hB⟩
    go_wp2
    go_ret
    exact ⟨x, rfl, hx, hB⟩
  · by_cases c1 : n ≤ 512
    · have t1 : ¬ (512 : Int) < (n : Int) := by omega
      have HD := hide (show Dig w (.slice (some ⟨b, o, none⟩) n c) n f from .inr ⟨b, o, c, rfl, h3, h4⟩)
      have e1 : min n 512 = n := by omega
      have e2 : min n 1024 = n := by omega
      clear h4
      go_enter Tacg.func82, Tacg.ntmps82
      go_wp2_with fail
      refine (take_dig hn _ HD.out).mono ?_
      rintro e w' ⟨x, rfl, hx, hB⟩
      go_wp2
      go_ret
      rw [e2] at hx
      exact ⟨x, rfl, by first | (rw [e1]; exact hx) | exact hx, hB⟩
    · have t1 : (512 : Int) < (n : Int) := by omega
      have t2 : (512 : Int) ≤ (c : Int) := by omega
      have HD := hide (Dig.cut (c := c) h4 (by omega))
      have e1 : min n 512 = 512 := by omega
      clear h4
      go_enter Tacg.func82, Tacg.ntmps82
      go_wp2_with fail
      refine (take_dig (by omega) _ HD.out).mono ?_
      rintro e w' ⟨x, rfl, hx, hB⟩
      go_wp2
      go_ret
      exact ⟨x, rfl, by first | (rw [e1]; exact hx) | exact hx, hB⟩

def newRowX (w : World) (x : Value) : Obj := .cells (#[x] ++ Builtin.zeroCells #[Value.slice none 0 0] (capOf w - 1)) 23

set_option maxRecDepth 100000 in
theorem pushX (b : Nat) (p : Option Addr) (n c : Nat) (w : World) (h : MachAt w b (.slice none 0 0) (.slice none 0 0)) : Calls Tacg.prog 81 #[.pointer (some ⟨b, 0, none⟩), .slice p n c] w fun r w' => r = .returned (.tuple #[]) ∧
    w' = (((w.alloc (.cells #[.slice p n c] 23)).alloc (newRowX w (.slice p n c))).setCell ⟨b, 0, none⟩ (.slice (some ⟨w.heap.size + 1, 0, none⟩) 1 (capOf w))).drew := by
  have c0 := h.c0
  have hM := (h.alloc (.cells #[.slice p n c] 23)).alloc (newRowX w (.slice p n c))
  have k0 := hM.c0
  have f0 := hM.f0 0
  have hc := cap_ok
  unfold newRowX capOf at k0 f0 ⊢
  clear h hM
  go_enter Tacg.func81, Tacg.ntmps81
  go_wp2
  go_end0
  exact ⟨rfl, rfl⟩

theorem pushX_any (b : Nat) (p : Option Addr) (n c : Nat) (w : World) (h : MachAt w b (.slice none 0 0) (.slice none 0 0)) : Calls Tacg.prog 81 #[.pointer (some ⟨b, 0, none⟩), .slice p n c] w fun r w' => r = .returned (.tuple #[]) ∧
    ∃ g c', 1 ≤ c' ∧ MachAt w' b (.slice (some ⟨g, 0, none⟩) 1 c') (.slice none 0 0) ∧ w'.cell? ⟨g, 0, none⟩ = some (.slice p n c) ∧ (∀ j, j < w.heap.size → j ≠ b → w'.heap[j]? = w.heap[j]?) ∧ w.heap.size ≤ g ∧ ∀ B w0, Below B w0 w → B ≤ b → Below B w0 w' := by
  refine (pushX b p n c w h).mono ?_
  rintro r w' ⟨rfl, rfl⟩
  have hlt := h.lt
  refine ⟨rfl, w.heap.size + 1, capOf w, cap_pos' w, (((h.alloc _).alloc _).set0 _).drew, ?_, fun j hj hne => ?_, by omega, fun B w0 hB hb => ?_⟩
  · show (((w.alloc (.cells #[.slice p n c] 23)).alloc (newRowX w (.slice p n c))).setCell ⟨b, 0, none⟩ (.slice (some ⟨w.heap.size + 1, 0, none⟩) 1 (capOf w))).cell? _ = _
    have e : ((w.alloc (.cells #[.slice p n c] 23)).alloc (newRowX w (.slice p n c))).heap[w.heap.size + 1]? = some (newRowX w (.slice p n c)) := by
      have := alloc_last (w.alloc (.cells #[.slice p n c] 23)) (newRowX w (.slice p n c))
      rwa [size_al] at this
    rw [World.cell?, Below.heap_setCell _ _ _ _ (by show w.heap.size + 1 ≠ b; omega), e]
    unfold newRowX
    show (#[Value.slice p n c] ++ _)[0]? = _
    rw [Array.getElem?_append_left (by simp)]
    rfl
  · show (((w.alloc (.cells #[.slice p n c] 23)).alloc (newRowX w (.slice p n c))).setCell ⟨b, 0, none⟩ _).heap[j]? = _
    rw [Below.heap_setCell _ _ _ _ (by show j ≠ b; omega), heap_alloc_old _ _ (by rw [size_al]; omega), heap_alloc_old _ _ hj]
  · exact ((((hB.alloc (by omega) _).alloc (by rw [size_al]; omega) _).setCell (p := ⟨b, 0, none⟩) hb _).drew)

theorem OwnRow.block {w w' : World} {g n : Nat} {f : Nat → Int} (h : OwnRow w g n f) (e : w'.heap[g]? = w.heap[g]?) : OwnRow w' g n f := by
  obtain ⟨C, h1, h2⟩ := h
  exact ⟨C, e.trans h1, h2⟩
theorem NatO.slice {w : World} {v : Value} {g n : Nat} {f : Nat → Int} (h : NatO w v g n f) : ∃ p m c, v = .slice p m c := by
  rcases h with ⟨h, _⟩ | ⟨c, h, _⟩
  · exact ⟨none, 0, 0, h⟩
  · exact ⟨_, _, _, h⟩
theorem NatO.block {w w' : World} {v : Value} {g n : Nat} {f : Nat → Int} (h : NatO w v g n f) (e : g < w.heap.size → w'.heap[g]? = w.heap[g]?) : NatO w' v g n f := by
  rcases h with h | ⟨c, h1, h2, h3, h4, h5, h6⟩
  · exact .inl h
  · exact .inr ⟨c, h1, h2, h3, h4, h5, h6.block (e h6.lt)⟩
theorem MachAt.below {w w' : World} {b B : Nat} {s o : Value} (h : MachAt w b s o) (hb : Below B w w') (hB : b < B) : MachAt w' b s o := (hb.block b hB).trans h

set_option maxRecDepth 100000 in
set_option maxHeartbeats 1000000 in
theorem stepX (eng : Int) (he0 : 0 ≤ eng) (he : eng ≤ 3) (b : Nat) {v : Value} {n : Nat} {f : Nat → Int} (hn : n ≤ 140737488355328) (w : World) (h : MachAt w b (.slice none 0 0) (.slice none 0 0)) (hv : Dig w v n f) :
    Calls Tacg.prog 23 #[.int .u8 eng, .pointer (some ⟨b, 0, none⟩), .agg #[.int .u8 0, v]] w fun r w' => r = .returned (.tuple #[]) ∧
    ∃ g c k x, 1 ≤ c ∧ MachAt w' b (.slice (some ⟨g, 0, none⟩) 1 c) (.slice none 0 0) ∧ w'.cell? ⟨g, 0, none⟩ = some x ∧ NatO w' x k (top f (min n 512)) f ∧ ∀ B w0, Below B w0 w → B ≤ b → Below B w0 w' := by
  have hlt := h.lt
  have A : Below w.heap.size w (w.alloc (.cells #[.int .u8 0, v] 36)) := (Below.refl _ _).alloc (Nat.le_refl _) _
  have H := hide (h.alloc (.cells #[.int .u8 0, v] 36))
  have HV := hide (hv.below A)
  have c0 := H.out.c0
  have t3 : ¬ (3 : Int) < eng := by omega
  clear h hv A
  go_enter Tacg.func23, Tacg.ntmps23
  go_wp2_with (first | (go_at_call 79; refine (room0 _).mono ?_; rintro e w' ⟨rfl, hw⟩; obtain rfl := hw.symm) | (go_at_call 21; refine (check0 b _ H.out).mono ?_; rintro e w' ⟨rfl, hw⟩; obtain rfl := hw.symm))
  refine (calcTake hn _ HV.out).mono ?_
  rintro e w1 ⟨x, rfl, hx, hB1⟩
  have hM1 := H.out.below hB1 H.out.lt
  have hbs : b < (w.alloc (.cells #[.int .u8 0, v] 36)).heap.size := H.out.lt
  have HX := hide hx
  obtain ⟨p, m, c, rfl⟩ := hx.slice
  have H1 := hide hM1
  have HB1 := hide hB1
  have HBS := hide hbs
  clear hM1 hB1 H HV hx c0 hbs
  go_wp2_with fail
  refine (pushX_any b p m c _ H1.out).mono ?_
  rintro e w2 ⟨rfl, g, c', q1, q2, q3, q4, q5, q6⟩
  have hlt1 : b < (w.alloc (.cells #[.int .u8 0, v] 36)).heap.size := HBS.out
  have hXf := hide (HX.out.block (fun h => q4 _ h (by omega)))
  have hBf : Hid (∀ B w0, Below B w0 w → B ≤ b → Below B w0 w2) := fun B w0 hB hb => q6 B w0 ((hB.alloc (by omega) _).trans (HB1.out.mono (by omega))) hb
  clear q4 q6 HX HB1 HBS H1 hlt1
  go_wp2
  go_end0
  exact ⟨rfl, g, c', _, _, q1, q2, q3, hXf.out, hBf.out⟩
end Go.Proofs.Ygctac
