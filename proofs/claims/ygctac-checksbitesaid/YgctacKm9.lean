/-
  law.ownMachine (made by tools/gen_km6.py).
-/
import Derived.Test.YgctacKm8
namespace Go.Proofs.Ygctac
open Go.RowKit
set_option linter.unusedVariables false
set_option linter.unusedSimpArgs false

set_option maxRecDepth 100000 in
set_option maxHeartbeats 4000000 in
theorem own_none (q : Option Addr) (k kc : Nat) (S : Nat → Ent) (Q : Nat → Int) (hk : k ≤ 140737488355328) (w : World) (ho : OuP w q k kc Q) :
    Calls Tacg.prog 19 #[.agg #[.slice none 0 0, .slice q k kc]] w fun rr w' => OwnR w 0 S k Q rr w' := by
  have HOU := hide ho
  clear ho
  go_enter Tacg.func19, Tacg.ntmps19
  go_wp2_with fail
  have HO : Hid (OM w (((w.alloc (.cells #[.slice none 0 0, .slice q k kc] 34)).alloc (.cells #[.slice none 0 0, .slice none 0 0] 34)).alloc (.cells #[.slice none 0 0, .slice none 0 0] 34)) w.heap.size (w.heap.size + 1) (w.heap.size + 1 + 1) 0 0 (.slice none 0 0) (.slice none 0 0) (.slice q k kc) S (fun _ => 0)) := hide (om_new0 w _ _ S)
  have HRR : Hid (w.heap.size ≤ w.heap.size + 1) := hide (by omega)
  have HXO : Hid (w.heap.size ≠ w.heap.size + 1 + 1) := hide (by omega)
  have HRO : Hid (w.heap.size + 1 ≠ w.heap.size + 1 + 1) := hide (by omega)
  have HOG : Hid (w.heap.size ≤ w.heap.size + 1 + 1) := hide (by omega)
  generalize ((w.alloc (.cells #[.slice none 0 0, .slice q k kc] 34)).alloc (.cells #[.slice none 0 0, .slice none 0 0] 34)).alloc (.cells #[.slice none 0 0, .slice none 0 0] 34) = w0 at *
  generalize w.heap.size + 1 + 1 = og at *
  generalize w.heap.size + 1 = r at *
  go_loopw [5] (fun s5 W1 => ∃ (i : Nat) (G : Nat → Nat) (W : World), s5 = .int .i64 i ∧ i ≤ 0 ∧ W1 = W ∧ Hid (OM w W w.heap.size r og 0 i (.slice none 0 0) (.slice none 0 0) (.slice q k kc) S G)) (fun s5 _ => 0 - (intOf s5).toNat)
  case atStart => exact ⟨0, _, _, rfl, by omega, rfl, HO⟩
  case round =>
    obtain ⟨i, G, W, rfl, hi, hw, HO⟩ := hrel
    obtain rfl := hw.symm
    clear hw
    obtain rfl : i = 0 := by omega
    rcases HOU.out with ⟨rfl, rfl, rfl⟩ | ⟨ob, oo, rfl, hkc, hq⟩
    · have hin := cell_of HO.out.inb (i := 1) rfl
      have ho0 := cell_of HO.out.own (i := 0) rfl
      have ho1 := cell_of HO.out.own (i := 1) rfl
      have hr0 := cell_of HO.out.res (i := 0) rfl
      have hr1 := cell_of HO.out.res (i := 1) rfl
      have fr0 := frozen_of HO.out.res 0
      have fr1 := frozen_of HO.out.res 1
      go_wp2_with fail
      refine bodyPost_ret (results_cellN (by rfl) _ _ _ ⟨r, 0, none⟩ (.agg #[(.slice none 0 0), .slice none 0 0]) rfl (cells_mach34 ?_ ?_)) rfl ⟨(.slice none 0 0), .slice none 0 0, G, rfl, (HO.out.st.set34 HO.out.res 0 (.slice none 0 0)).set34 (heap_setCell_same W r 0 _ 34 _ HO.out.res) 1 _, .inl ⟨rfl, rfl⟩, (HO.out.below.setCell (p := ⟨r, 0, none⟩) HRR.out _).setCell (p := ⟨r, 1, none⟩) HRR.out _⟩
      · exact set_no (by decide) (set_same hr0)
      · exact set_same (set_no (by decide) hr1)
    · have hin := cell_of HO.out.inb (i := 1) rfl
      have ho0 := cell_of HO.out.own (i := 0) rfl
      have ho1 := cell_of HO.out.own (i := 1) rfl
      have fo1 := frozen_of HO.out.own 1
      have rm32 := make32 k hk
      rw [made_out] at rm32
      have HA : Hid (Below W.heap.size W (W.alloc (.cells (outL k fun _ => 0).toArray 92))) := hide ((Below.refl _ _).alloc (Nat.le_refl _) _)
      have hO5 := HO.out.after HA.out
      have hl5 : (W.alloc (.cells (outL k fun _ => 0).toArray 92)).heap[W.heap.size]? = some (.cells (outL k fun _ => 0).toArray 92) := alloc_last _ _
      have ne5 := type_ne hl5 hO5.own (by decide)
      have c5 := cell_of hO5.own (i := 1) rfl
      have c50 := cell_of hO5.own (i := 0) rfl
      have f5 := frozen_of hO5.own 1
      have i5 := cell_of hO5.inb (i := 1) rfl
      have nxo : w.heap.size ≠ og := HXO.out
      have i6 : ((W.alloc (.cells (outL k fun _ => 0).toArray 92)).setCell ⟨og, 1, none⟩ (.slice (some ⟨W.heap.size, 0, none⟩) k k)).cell? ⟨w.heap.size, 1, none⟩ = some (.slice (some ⟨ob, oo, none⟩) k kc) := by
        exact set_ne (by simp only; omega) i5
      have o6 : ((W.alloc (.cells (outL k fun _ => 0).toArray 92)).setCell ⟨og, 1, none⟩ (.slice (some ⟨W.heap.size, 0, none⟩) k k)).heap[W.heap.size]? = some (.cells (outL k fun _ => 0).toArray 92) := by
        rw [Below.heap_setCell _ _ _ _ ne5]; exact hl5
      have src : ∀ j v, (outL k Q)[j]? = some v → ((W.alloc (.cells (outL k fun _ => 0).toArray 92)).setCell ⟨og, 1, none⟩ (.slice (some ⟨W.heap.size, 0, none⟩) k k)).cell? ((⟨ob, oo, none⟩ : Addr).add j) = some v := by
        intro j v hv
        have hj : j < k := by
          have := (List.getElem?_eq_some_iff.1 hv).1
          simpa [outL_length] using this
        rw [outL_get k Q j hj] at hv
        obtain rfl := Option.some.inj hv
        rw [add_none]
        have hc0 := hq j hj
        have hl0 := World.block_lt_of_cell? w _ hc0
        have hge : w.heap.size ≤ og := HOG.out
        refine set_ne (by simp only at hl0 ⊢; omega) ?_
        rw [(HO.out.below.trans (HA.out.mono HO.out.below.size)).cell hl0]
        exact hc0
      have uo : ((W.alloc (.cells (outL k fun _ => 0).toArray 92)).setCell ⟨og, 1, none⟩ (.slice (some ⟨W.heap.size, 0, none⟩) k k)).heap[og]? = some (.cells #[(.slice none 0 0), .slice (some ⟨W.heap.size, 0, none⟩) k k] 34) := heap_setCell_same _ og 1 _ 34 _ hO5.own
      have ur : ((W.alloc (.cells (outL k fun _ => 0).toArray 92)).setCell ⟨og, 1, none⟩ (.slice (some ⟨W.heap.size, 0, none⟩) k k)).heap[r]? = some (.cells #[.slice none 0 0, .slice none 0 0] 34) := by
        rw [Below.heap_setCell _ _ _ _ (fun e => HRO.out e)]; exact hO5.res
      have ub : Below w.heap.size w ((W.alloc (.cells (outL k fun _ => 0).toArray 92)).setCell ⟨og, 1, none⟩ (.slice (some ⟨W.heap.size, 0, none⟩) k k)) := hO5.below.setCell (p := ⟨og, 1, none⟩) HOG.out _
      have mv : ∀ (b : Nat) (C : Array Value) (t : TypeId), W.heap[b]? = some (.cells C t (0, 0)) → t ≠ 34 → b < W.heap.size ∧ ((W.alloc (.cells (outL k fun _ => 0).toArray 92)).setCell ⟨og, 1, none⟩ (.slice (some ⟨W.heap.size, 0, none⟩) k k)).heap[b]? = some (.cells C t (0, 0)) := by
        intro b C t hb ht
        refine ⟨heap_lt hb, ?_⟩
        rw [Below.heap_setCell _ _ _ _ (type_ne hb HO.out.own ht), HA.out.block b (heap_lt hb)]
        exact hb
      have HU := hide (And.intro uo (And.intro ur (And.intro ub (And.intro mv (And.intro (heap_lt HO.out.own) (heap_lt HO.out.res))))))
      have HIN := hide hin
      have HN := hide (And.intro c5 (And.intro f5 (And.intro i6 (And.intro o6 src))))
      clear hO5 hl5 c5 c50 f5 i5 i6 o6 src hq ne5 nxo ho0 ho1 fo1 uo ur ub mv
      have c5 := HN.out.1
      have f5 := HN.out.2.1
      have i6 := HN.out.2.2.1
      go_wp2_with (refine wpList_copy_splice rfl (.tmp 43) (.tmp 45) 32 32 rfl 92 Tacg.underlying32 size92 _ _ k k k kc rfl rfl W.heap.size 0 (outL k fun _ => 0) 92 HN.out.2.2.2.1 (outL k Q) (by rw [outL_length]; exact (Nat.min_self k).symm) (fun _ => ⟨rfl, ⟨ob, oo, none⟩, rfl, HN.out.2.2.2.2⟩) (by simp [outL_length]) (outL_one _ _) W.heap.size _ (Below.refl _ _) (Nat.le_refl _) ?_; intro w6 hg6 hb6; have HB6 := hide hb6; have HO6 := hide ((hb6.block og HU.out.2.2.2.2.1).trans HU.out.1); have HR6 := hide ((hb6.block r HU.out.2.2.2.2.2).trans HU.out.2.1); clear hb6; have q0 := cell_of HO6.out (i := 0) rfl; have q1 := cell_of HO6.out (i := 1) rfl; have r0 := cell_of HR6.out (i := 0) rfl; have r1 := cell_of HR6.out (i := 1) rfl; have fr0 := frozen_of HR6.out 0; have fr1 := frozen_of HR6.out 1)
      have hst : OwnSt w.heap.size w6 (.slice none 0 0) 0 S G := HO.out.st.moved (fun b C t hb ht => by
        have := HU.out.2.2.2.1 b C t hb ht
        rw [HB6.out.block b this.1]
        exact this.2)
      have hou : OwnOu w.heap.size w6 (.slice (some ⟨W.heap.size, 0, none⟩) k k) k Q := by
        have := hg6.out
        rw [splice_whole _ _ (by simp [outL_length])] at this
        exact .inr ⟨W.heap.size, rfl, HO.out.below.size, _, this, by simp [outL_length], fun j hj => by have := outL_get k Q j hj; simpa using this⟩
      refine bodyPost_ret (results_cellN (by rfl) _ _ _ ⟨r, 0, none⟩ (.agg #[(.slice none 0 0), .slice (some ⟨W.heap.size, 0, none⟩) k k]) rfl (cells_mach34 ?_ ?_)) rfl ⟨(.slice none 0 0), .slice (some ⟨W.heap.size, 0, none⟩) k k, G, rfl, (hst.set34 HR6.out 0 _).set34 (heap_setCell_same w6 r 0 _ 34 _ HR6.out) 1 _, (hou.set34 HR6.out 0 _).set34 (heap_setCell_same w6 r 0 _ 34 _ HR6.out) 1 _, ((HU.out.2.2.1.trans (HB6.out.mono HO.out.below.size)).setCell (p := ⟨r, 0, none⟩) HRR.out _).setCell (p := ⟨r, 1, none⟩) HRR.out _⟩
      · exact set_no (by decide) (set_same r0)
      · exact set_same (set_no (by decide) r1)
end Go.Proofs.Ygctac
