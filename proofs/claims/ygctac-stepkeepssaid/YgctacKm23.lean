/-
  law.sharedRefused.
-/
import Derived.Test.YgctacKm22
namespace Go.Proofs.Ygctac
open Go.RowKit
set_option linter.unusedVariables false
set_option linter.unusedSimpArgs false

/-- The stack behind the share. -/
def shS (S : Nat → Ent) (j : Nat) (x : En) : Nat → Ent := fun t => if t = j then some x else S t
/-- A machine as sharedRefused gets it. -/
structure BM (w : World) (p q : Option Addr) (n c k kc : Nat) (S : Nat → Ent) (Q : Nat → Int) (sb : Nat) : Prop where
  ps : p = some ⟨sb, 0, none⟩
  nc : n ≤ c
  row : ∃ C, w.heap[sb]? = some (.cells C 23 (0, 0)) ∧ n ≤ C.size ∧ ∀ i, i < n → C[i]? = some (vOf (S i))
  ent : ∀ i, i < n → EntOk w (S i)
  five : ∀ i, i < n → ∀ e, S i = some e → ∃ C, w.heap[e.b]? = some (.cells C 5 (0, 0))
  out : OuP w q k kc Q
theorem BM.after {w w' : World} {p q : Option Addr} {n c k kc : Nat} {S : Nat → Ent} {Q : Nat → Int} {sb : Nat} (h : BM w p q n c k kc S Q sb) (hb : Below w.heap.size w w') : BM w' p q n c k kc S Q sb := by
  obtain ⟨C, c1, c2, c3⟩ := h.row
  refine ⟨h.ps, h.nc, ⟨C, (hb.block _ (heap_lt c1)).trans c1, c2, c3⟩, fun i hi => (h.ent i hi).below hb, fun i hi e he => ?_, h.out.below hb⟩
  obtain ⟨D, d1⟩ := h.five i hi e he
  exact ⟨D, (hb.block _ (heap_lt d1)).trans d1⟩
theorem BM.stp {w : World} {p q : Option Addr} {n c k kc : Nat} {S : Nat → Ent} {Q : Nat → Int} {sb : Nat} (h : BM w p q n c k kc S Q sb) : StP w p n c S := by
  obtain ⟨C, c1, c2, c3⟩ := h.row
  exact .inr ⟨sb, 0, h.ps, h.nc, fun i hi => by rw [Nat.zero_add]; exact cell_of c1 (c3 i hi), h.ent⟩
theorem BM.plain {w : World} {p q : Option Addr} {n c k kc : Nat} {S : Nat → Ent} {Q : Nat → Int} {sb : Nat} (h : BM w p q n c k kc S Q sb) : AllPlain w n S := fun i hi e he => by
  obtain ⟨D, d1⟩ := h.five i hi e he
  exact ⟨D, 5, d1⟩
theorem EntOk.set23 {w : World} {x : Ent} {sb j : Nat} {C : Array Value} (h : EntOk w x) (h5 : ∀ e, x = some e → ∃ C, w.heap[e.b]? = some (.cells C 5 (0, 0))) (hs : w.heap[sb]? = some (.cells C 23 (0, 0))) (v : Value) : EntOk (w.setCell ⟨sb, j, none⟩ v) x := by
  intro e he
  obtain ⟨a1, a2, a3, a4⟩ := h e he
  obtain ⟨D, d1⟩ := h5 e he
  have hne := type_ne d1 hs (by decide)
  exact ⟨a1, a2, a3, fun i hi => set_ne hne (a4 i hi)⟩
theorem BM.share {w : World} {p q : Option Addr} {n c k kc : Nat} {S : Nat → Ent} {Q : Nat → Int} {sb i j d : Nat} {e : En} (h : BM w p q n c k kc S Q sb) (hi : i < n) (hj : j < n) (hne : i ≠ j) (he : S i = some e) (hd : d < e.l) :
    BM (w.setCell ⟨sb, j, none⟩ (vOf (some (partE e d)))) p q n c k kc (shS S j (partE e d)) Q sb ∧ ¬ Chk n (shS S j (partE e d)) := by
  obtain ⟨C, c1, c2, c3⟩ := h.row
  have h5 := h.five
  refine ⟨⟨h.ps, h.nc, ⟨C.setIfInBounds j (vOf (some (partE e d))), heap_setCell_same w sb j C 23 _ c1, by simpa using c2, fun t ht => ?_⟩, fun t ht => ?_, fun t ht e' he' => ?_, ?_⟩, fun hck => ?_⟩
  · by_cases ct : t = j
    · subst ct
      have : t < C.size := by omega
      simp [shS, this]
    · simp only [shS, ct, if_false]
      rw [Array.getElem?_setIfInBounds_ne (by omega)]
      exact c3 t ht
  · by_cases ct : t = j
    · simp only [shS, ct, if_true]
      refine EntOk.set23 (fun e' he' => ?_) (fun e' he' => ?_) c1 _
      · cases he'
        obtain ⟨a1, a2, a3, a4⟩ := h.ent i hi e he
        refine ⟨by simp only [partE]; omega, by simp only [partE]; omega, fun u hu => ?_, fun u hu => ?_⟩
        · simp only [partE] at hu ⊢
          exact a3 (d + u) (by omega)
        · simp only [partE] at hu ⊢
          have := a4 (d + u) (by omega)
          rwa [← Nat.add_assoc] at this
      · cases he'
        exact h5 i hi e he
    · simp only [shS, ct, if_false]
      exact EntOk.set23 (h.ent t ht) (h5 t ht) c1 _
  · have hb : ∃ C, w.heap[e'.b]? = some (.cells C 5 (0, 0)) := by
      by_cases ct : t = j
      · simp only [shS, ct, if_true] at he'
        cases he'
        exact h5 i hi e he
      · simp only [shS, ct, if_false] at he'
        exact h5 t ht e' he'
    obtain ⟨D, d1⟩ := hb
    exact ⟨D, by rw [Below.heap_setCell _ _ _ _ (type_ne d1 c1 (by decide))]; exact d1⟩
  · rcases h.out with h0 | ⟨ob, oo, o1, o2, o3⟩
    · exact .inl h0
    · refine .inr ⟨ob, oo, o1, o2, fun t ht => ?_⟩
      have hc := o3 t ht
      rw [World.cell?_setCell_other (h := fun ea => ?_)]
      · exact hc
      · injection ea with e1 e2
        have hj2 := cell_of c1 (c3 j hj)
        rw [← e1, ← e2] at hc
        rw [hc] at hj2
        injection hj2 with hj2
        obtain ⟨pp, ll, cc, hv⟩ := vOf_slice (S j)
        rw [hv] at hj2
        cases hj2
  · have hSi : shS S j (partE e d) i = some e := by simp only [shS, hne, if_false]; exact he
    have hSj : shS S j (partE e d) j = some (partE e d) := by simp [shS]
    refine hck.2.2 i hi e hSi j hj (fun h => hne h.symm) ?_
    rw [hSj]
    exact ⟨d, hd, rfl⟩

theorem ownSt_stp {B : Nat} {W : World} {p : Option Addr} {c : Nat} {n : Nat} {S : Nat → Ent} {G : Nat → Nat} (h : OwnSt B W (.slice p n c) n S G) (hE : ∀ i, i < n → EntOk W (S i)) : StP W p n c (fun i => cp (S i) (G i)) := by
  rcases h.1 with ⟨h0, rfl⟩ | ⟨sb, h0, h1, C, h2, h3, h4⟩
  · cases h0; exact .inl ⟨rfl, rfl, rfl⟩
  · cases h0
    refine .inr ⟨sb, 0, rfl, Nat.le_refl _, fun i hi => by rw [Nat.zero_add]; exact cell_of h2 (h4 i hi), fun i hi e he => ?_⟩
    cases hS : S i with
    | none => simp only [hS, cp, Option.map_none] at he; cases he
    | some e0 =>
      simp only [hS, cp, Option.map_some] at he
      cases he
      have h5 := hE i hi e0 hS
      exact ⟨Nat.le_refl _, h5.2.1, h5.2.2.1, (h.2.1 i hi e0 hS).2.cells⟩
theorem ownOu_oup {B : Nat} {W : World} {p : Option Addr} {c : Nat} {k : Nat} {Q : Nat → Int} (h : OwnOu B W (.slice p k c) k Q) : OuP W p k c Q := by
  rcases h with ⟨h0, rfl⟩ | ⟨sb, h0, h1, C, h2, h3, h4⟩
  · cases h0; exact .inl ⟨rfl, rfl, rfl⟩
  · cases h0
    exact .inr ⟨sb, 0, rfl, Nat.le_refl _, fun i hi => by rw [Nat.zero_add]; exact cell_of h2 (h4 i hi)⟩
def TrueR (B : Nat) (w : World) (r : Ending) (w' : World) : Prop := r = .returned (.bool true) ∧ Below B w w'
set_option maxRecDepth 100000 in
set_option maxHeartbeats 4000000 in
theorem shared_any (eng : Int) (K : Nat) (hK : K < 256) (xa : Ent) (p q : Option Addr) (n c k kc : Nat) (S : Nat → Ent) (Q : Nat → Int) (sb B : Nat) (hn : n ≤ 17) (hk : k ≤ 140737488355328) (w : World) (h : BM w p q n c k kc S Q sb) (ha : EntOk w xa) (hB : B ≤ w.heap.size) (hsb : B ≤ sb) :
    Calls Tacg.prog 27 #[.int .u8 eng, .agg #[.slice p n c, .slice q k kc], .agg #[.int .u8 K, vOf xa]] w fun r w' => TrueR B w r w' := by
  have hb1 : Below w.heap.size w (w.alloc (.cells #[.slice p n c, .slice q k kc] 34)) := (Below.refl _ _).alloc (Nat.le_refl _) _
  have hb2 : Below (w.alloc (.cells #[.slice p n c, .slice q k kc] 34)).heap.size (w.alloc (.cells #[.slice p n c, .slice q k kc] 34)) ((w.alloc (.cells #[.slice p n c, .slice q k kc] 34)).alloc (.cells #[.int .u8 K, vOf xa] 36)) := (Below.refl _ _).alloc (Nat.le_refl _) _
  have hb12 := hb1.trans (hb2.mono hb1.size)
  have hx1 : ((w.alloc (.cells #[.slice p n c, .slice q k kc] 34)).alloc (.cells #[.int .u8 K, vOf xa] 36)).heap[w.heap.size]? = some (.cells #[.slice p n c, .slice q k kc] 34) := by rw [hb2.block _ (by rw [size_al]; omega)]; exact alloc_last _ _
  have hx2 : ((w.alloc (.cells #[.slice p n c, .slice q k kc] 34)).alloc (.cells #[.int .u8 K, vOf xa] 36)).heap[w.heap.size + 1]? = some (.cells #[.int .u8 K, vOf xa] 36) := by
    have := alloc_last (w.alloc (.cells #[.slice p n c, .slice q k kc] 34)) (.cells #[.int .u8 K, vOf xa] 36)
    rwa [size_al] at this
  have HD := hide (draw_any K hK xa _ (ha.below hb12))
  have HM2 := hide (h.after hb12)
  have HB2 := hide hb12
  have HX1 := hide hx1
  have HX2 := hide hx2
  obtain ⟨xp, xl, xc, hxv⟩ := vOf_slice xa
  rw [hxv] at HD HM2 HB2 HX1 HX2 ⊢
  clear h ha hb1 hb2 hb12 hx1 hx2 hxv
  go_enter Tacg.func27, Tacg.ntmps27
  go_wp2_with fail
  generalize (w.alloc (.cells #[.slice p n c, .slice q k kc] 34)).alloc (.cells #[.int .u8 K, .slice xp xl xc] 36) = w2 at *
  refine HD.out.mono ?_
  rintro e w3 ⟨i, j, d, rfl, hi, hj, hd, hb3⟩
  have HM3 := hide (HM2.out.after hb3)
  have HB3 := hide (HB2.out.trans (hb3.mono HB2.out.size))
  have HX13 := hide ((hb3.block _ (heap_lt HX1.out)).trans HX1.out)
  have HX23 := hide ((hb3.block _ (heap_lt HX2.out)).trans HX2.out)
  have m0 := cell_of HX13.out (i := 0) rfl
  clear hb3 HD HM2 HB2 HX1 HX2
  go_wp2_with fail
  obtain rfl := HM3.out.ps
  obtain ⟨C, c1, c2, c3⟩ := HM3.out.row
  refine (share_any sb n c i j d S hn hi hj hd w3 C c1 c3 HM3.out.ent).mono ?_
  have HC1 := hide c1
  clear c1 c2 c3 m0
  rintro e w4 hSh
  · rcases hSh with ⟨rfl, d0, rfl⟩ | ⟨rfl, i', j', e', d', q', hi', hj', hne, he', hd', rfl⟩
    · go_wp2_with fail
      go_ret
      exact ⟨rfl, below_dN (HB3.out.mono hB) d0⟩
    · have hbd : Below w3.heap.size w3 (w3.drewN q') := below_dN (Below.refl _ _) q'
      obtain ⟨hM4, hnc⟩ := (HM3.out.after hbd).share hi' hj' hne he' hd'
      have c1' : (w3.drewN q').heap[sb]? = some (.cells C 23 (0, 0)) := HC1.out
      have HX14 : Hid (((w3.drewN q').setCell ⟨sb, j', none⟩ (vOf (some (partE e' d')))).heap[w.heap.size]? = some (.cells #[.slice (some ⟨sb, 0, none⟩) n c, .slice q k kc] 34)) := hide (by
        rw [Below.heap_setCell _ _ _ _ (type_ne (w := w3.drewN q') HX13.out c1' (by decide))]; exact HX13.out)
      have HX24 : Hid (((w3.drewN q').setCell ⟨sb, j', none⟩ (vOf (some (partE e' d')))).heap[w.heap.size + 1]? = some (.cells #[.int .u8 K, .slice xp xl xc] 36)) := hide (by
        rw [Below.heap_setCell _ _ _ _ (type_ne (w := w3.drewN q') HX23.out c1' (by decide))]; exact HX23.out)
      have HB4 : Hid (Below B w ((w3.drewN q').setCell ⟨sb, j', none⟩ (vOf (some (partE e' d'))))) := hide ((below_dN (HB3.out.mono hB) q').setCell (p := ⟨sb, j', none⟩) hsb _)
      have HM4 := hide hM4
      have HNC := hide (chkB_false hnc)
      clear hM4 hnc hbd hi' hj' hne he' hd' c1' HX13 HX23 HM3 HB3 HC1
      generalize (w3.drewN q').setCell ⟨sb, j', none⟩ (vOf (some (partE e' d'))) = w4 at *
      generalize shS S j' (partE e' d') = S' at *
      have m0 := cell_of HX14.out (i := 0) rfl
      have m1 := cell_of HX14.out (i := 1) rfl
      have HOW := hide (own_any _ n c q k kc S' Q (by omega) hk w4 HM4.out.stp HM4.out.out)
      rw [show min n 17 = n by omega] at HOW
      go_wp2_with fail
      refine HOW.out.mono ?_
      rintro e5 w5 ⟨sv, uv, G, rfl, hS5, hU5, hB5⟩
      obtain ⟨svp, svc, rfl⟩ := ownSt_slice hS5
      obtain ⟨uvp, uvc, rfl⟩ := ownOu_slice hU5
      have hb6 : Below w5.heap.size w5 (w5.alloc (.cells #[.slice svp n svc, .slice uvp k uvc] 34)) := (Below.refl _ _).alloc (Nat.le_refl _) _
      have HS6 := hide (hS5.after hb6)
      have HU6 := hide (hU5.after hb6)
      have hb46 := hB5.trans (hb6.mono hB5.size)
      have HM6 := hide (HM4.out.after hb46)
      have HX16 := hide ((hb46.block _ (heap_lt HX14.out)).trans HX14.out)
      have HX26 := hide ((hb46.block _ (heap_lt HX24.out)).trans HX24.out)
      have HK6 : Hid ((w5.alloc (.cells #[.slice svp n svc, .slice uvp k uvc] 34)).heap[w5.heap.size]? = some (.cells #[.slice svp n svc, .slice uvp k uvc] 34)) := hide (alloc_last _ _)
      have HB6 := hide (HB4.out.trans (hb46.mono (Nat.le_trans hB (Nat.le_trans (Nat.le_refl _) (HB4.out.size)))))
      clear hS5 hU5 hB5 hb6 hb46 HM4 HX14 HX24 HOW HB4 m0 m1
      go_wp2_with fail
      generalize w5.alloc (.cells #[.slice svp n svc, .slice uvp k uvc] 34) = w6 at *
      generalize w5.heap.size = kb at *
      have hck := check_any w.heap.size _ n c S' _ (by omega) w6 ⟨cell_of HX16.out (i := 0) rfl, cell_of HX16.out (i := 1) rfl⟩ HM6.out.stp HM6.out.plain
      rw [HNC.out] at hck
      refine hck.mono ?_
      rintro e6 w7 ⟨rfl, hb7⟩
      have HM7 := hide (HM6.out.after hb7)
      have HS7 := hide (HS6.out.after hb7)
      have HU7 := hide (HU6.out.after hb7)
      have HX17 := hide ((hb7.block _ (heap_lt HX16.out)).trans HX16.out)
      have HX27 := hide ((hb7.block _ (heap_lt HX26.out)).trans HX26.out)
      have HK7 := hide ((hb7.block _ (heap_lt HK6.out)).trans HK6.out)
      have HB7 := hide (HB6.out.trans (hb7.mono (Nat.le_trans hB HB6.out.size)))
      clear hck hb7 HM6 HS6 HU6 HX16 HX26 HK6 HB6
      have o0 := cell_of HX27.out (i := 0) rfl
      have o1 := cell_of HX27.out (i := 1) rfl
      go_wp2_with fail
      refine (step_refused eng K (by omega) w.heap.size _ n c S' _ _ (by omega) w7 ⟨cell_of HX17.out (i := 0) rfl, cell_of HX17.out (i := 1) rfl⟩ HM7.out.stp HM7.out.plain HNC.out).mono ?_
      rintro e7 w8 ⟨rfl, hb8⟩
      have HM8 := hide (HM7.out.after hb8)
      have HS8 := hide (HS7.out.after hb8)
      have HU8 := hide (HU7.out.after hb8)
      have HX18 := hide ((hb8.block _ (heap_lt HX17.out)).trans HX17.out)
      have HK8 := hide ((hb8.block _ (heap_lt HK7.out)).trans HK7.out)
      have HB8 := hide (HB7.out.trans (hb8.mono (Nat.le_trans hB HB7.out.size)))
      clear hb8 HM7 HS7 HU7 HX17 HX27 HK7 HB7 o0 o1
      go_wp2_with fail
      refine (sameMachine_any w.heap.size kb _ svp q uvp n c svc k kc uvc S' (fun i => cp (S' i) (G i)) Q (by omega) hk w8 ⟨cell_of HX18.out (i := 0) rfl, cell_of HX18.out (i := 1) rfl⟩ ⟨cell_of HK8.out (i := 0) rfl, cell_of HK8.out (i := 1) rfl⟩ HM8.out.stp (ownSt_stp HS8.out HM8.out.ent) HM8.out.out (ownOu_oup HU8.out) (fun i hi => SameV.cp _ _)).mono ?_
      rintro e8 w9 ⟨rfl, d9, rfl⟩
      go_wp2_with fail
      go_ret
      exact ⟨rfl, below_dN HB8.out d9⟩
end Go.Proofs.Ygctac
