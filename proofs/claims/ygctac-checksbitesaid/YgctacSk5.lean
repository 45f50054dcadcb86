/-
  copy into a row of digits; MulKaratsuba: what form its answer has.
-/
import Derived.Test.YgctacSk4
namespace Go.Proofs.Ygctac
open Go.RowKit
set_option linter.unusedVariables false
set_option linter.unusedSimpArgs false

/-- Block g is a row of n digits. -/
def RowX (w : World) (g n : Nat) : Prop := ∃ k, Dg k n ∧ RowAt w g n k
theorem RowX.d {w : World} {g n : Nat} (h : RowX w g n) : RowD w g n := by
  obtain ⟨k, h1, h2⟩ := h
  exact ⟨k, h1, h2.own⟩
theorem RowX.new (w : World) (n : Nat) : RowX (w.alloc (.cells (rowL n fun _ => 0).toArray 5)) w.heap.size n := ⟨_, Dg.zero n, RowAt.new w n _⟩
theorem rowL_get? (n : Nat) (f : Nat → Int) (j : Nat) : (rowL n f)[j]? = if j < n then some (.int .u8 (f j)) else none := by
  by_cases h : j < n
  · rw [if_pos h, rowL_get n f j h]
  · rw [if_neg h]
    exact List.getElem?_eq_none (by rw [rowL_length]; omega)
theorem splice_rowL (N off l : Nat) (k f : Nat → Int) (h : off + l ≤ N) : splice (rowL N k) off (rowL l f) = rowL N (fun j => if off ≤ j ∧ j < off + l then f (j - off) else k j) := by
  apply List.ext_getElem?
  intro j
  unfold splice
  have hlen : (List.take off (rowL N k)).length = off := by rw [List.length_take, rowL_length]; omega
  rw [rowL_get?]
  rcases Nat.lt_or_ge j off with h1 | h1
  · rw [List.getElem?_append_left (by rw [hlen]; exact h1), List.getElem?_take, if_pos h1, rowL_get?, if_pos (by omega), if_pos (by omega), if_neg (by omega)]
  · rw [List.getElem?_append_right (by rw [hlen]; exact h1), hlen]
    rcases Nat.lt_or_ge j (off + l) with h2 | h2
    · rw [List.getElem?_append_left (by rw [rowL_length]; omega), rowL_get?, if_pos (by omega), if_pos (by omega), if_pos ⟨h1, h2⟩]
    · rw [List.getElem?_append_right (by rw [rowL_length]; omega), rowL_length, List.getElem?_drop, rowL_get?, show off + l + (j - off - l) = j by omega]
      by_cases h3 : j < N
      · rw [if_pos h3, if_pos h3, if_neg (by omega)]
      · rw [if_neg h3, if_neg h3]
theorem wpList_copyD {w : World} {ops : Array Oper} {rest : List Oper} {o : Oper} {a : Act} {Q : Exit → Act → World → Prop} (hgd : o.guard = none) (d s : Operand) (t u : TypeId)
    (ho : o.op = .call { callee := .builtin .copy, args := #[d, s], argTypes := #[t, u] }) (ht : Tacg.prog.underlying t = some (.slice 5)) (g off N len c : Nat) (q : Option Addr) (m : Nat)
    (hd : a.eval d = .slice (some ⟨g, off, none⟩) len c) (hs : a.eval s = .slice q m m) (hl : off + len ≤ N) (hR : RowX w g N) (hq : Sl w q m)
    (h : ∀ w' z, RowX w' g N → Below g w w' → wpList Tacg.prog ops Q rest (a.put o.dst z) w') : wpList Tacg.prog ops Q (o :: rest) a w := by
  obtain ⟨k, hk, hrow⟩ := hR
  have key : ∀ f, Dg f m → (0 < m → ∃ ad, q = some ad ∧ ∀ j v, (rowL (min m len) f)[j]? = some v → w.cell? (ad.add j) = some v) → wpList Tacg.prog ops Q (o :: rest) a w := by
    intro f hf hsrc
    refine wpList_copy_splice hgd d s t u ho 5 ht size5 _ _ len c m m hd hs g off (rowL N k) 5 hrow (rowL (min m len) f) (by rw [rowL_length]) (fun hpos => ⟨rfl, hsrc (by rw [rowL_length] at hpos; omega)⟩) (by rw [rowL_length, rowL_length]; omega) (rowL_one _ _) g w (Below.refl _ _) (Nat.le_refl _) (fun w' hg hB => ?_)
    refine h w' _ ⟨fun j => if off ≤ j ∧ j < off + min m len then f (j - off) else k j, ?_, ?_⟩ hB
    · intro j hj
      by_cases cj : off ≤ j ∧ j < off + min m len
      · simp only [cj, and_self, if_true]; exact hf _ (by omega)
      · simp only [cj, if_false]; exact hk j hj
    · have := hg.out
      rw [splice_rowL N off _ k f (by omega)] at this
      exact this
  rcases hq with ⟨rfl, rfl⟩ | ⟨b, o', f, rfl, h2, h3, h4, h5⟩
  · exact key (fun _ => 0) (Dg.zero _) (fun h => absurd h (by omega))
  · refine key f h4 (fun _ => ⟨_, rfl, fun j v hv => ?_⟩)
    have hj : j < min m len := by
      have := (List.getElem?_eq_some_iff.1 hv).1
      simpa [rowL_length] using this
    rw [rowL_get _ f j hj] at hv
    obtain rfl := Option.some.inj hv
    rw [add_none]
    exact h5 j (by omega)

/-- A row that may be written, from block B on, or nothing. -/
def Rz (w : World) (r : Option Addr) (n B : Nat) : Prop := (r = none ∧ n = 0) ∨ ∃ g, r = some ⟨g, 0, none⟩ ∧ B ≤ g ∧ RowD w g n
theorem Rz.below {w w' : World} {r : Option Addr} {n B : Nat} (h : Rz w r n B) (hb : Below w.heap.size w w') : Rz w' r n B := by
  rcases h with h | ⟨g, h1, h2, h3⟩
  · exact .inl h
  · exact .inr ⟨g, h1, h2, h3.below hb h3.lt⟩
theorem NatB.rz {w : World} {v : Value} {B L : Nat} (h : NatB w v B L) : ∃ r n, v = .slice r n n ∧ n ≤ L ∧ n ≤ 140737488355328 ∧ Rz w r n B := by
  rcases h with h | ⟨g, n, f, h1, h2, h3, h4, h5, h6, h7, h8⟩
  · exact ⟨none, 0, h, by omega, by omega, .inl ⟨rfl, rfl⟩⟩
  · exact ⟨_, n, h1, h4, h5, .inr ⟨g, rfl, h2, f, h7, h8⟩⟩
theorem subFrom_u (r q : Option Addr) (n m B : Nat) (hn : n ≤ 140737488355328) (w : World) (h : Rz w r n B) (hq : ∀ W, Below B w W → Sl W q m) :
    Calls Tacg.prog 75 #[.slice r n n, .slice q m m] w fun e w' => e = .returned (.tuple #[]) ∧ Rz w' r n B ∧ Below B w w' := by
  rcases h with ⟨rfl, rfl⟩ | ⟨g, rfl, h2, h3⟩
  · exact (subFrom_any_nil q m w).mono (by rintro e w' ⟨rfl, rfl⟩; exact ⟨rfl, .inl ⟨rfl, rfl⟩, Below.refl _ _⟩)
  · refine (subFrom_any g n 0 n m q (by omega) hn w h3 (fun W hW => hq W (hW.mono h2))).mono ?_
    rintro e w' ⟨rfl, hR, hB⟩
    exact ⟨rfl, .inr ⟨g, rfl, h2, hR⟩, hB.mono h2⟩
theorem normal_rz (r : Option Addr) (n B : Nat) (hn : n ≤ 140737488355328) (w : World) (h : Rz w r n B) : ∃ p m, Sl w p m ∧ m ≤ n ∧ ∀ W, Below w.heap.size w W → Calls Tacg.prog 73 #[.slice r n n] W fun e w' => e = .returned (.slice p m m) ∧ w' = W := by
  rcases h with ⟨rfl, rfl⟩ | ⟨g, rfl, h2, k, hk, hR⟩
  · exact ⟨none, 0, .inl ⟨rfl, rfl⟩, by omega, fun W _ => normal_nil _⟩
  · obtain ⟨p, m, e, a1, a2, a3⟩ := (nm_trimV (c := n) (b := g) (o := 0) hn hk hR.cells).form
    refine ⟨p, m, a3, a1, fun W hW => ?_⟩
    have := normal_any g 0 n n k (Nat.le_refl _) hn W (hR.below hW hR.lt).cells
    rwa [e] at this

set_option maxRecDepth 100000 in
set_option maxHeartbeats 8000000 in
theorem kara_any (lv : Nat) : lv ≤ 255 → ∀ (u v : Value) (n m : Nat) (w : World), n + lv ≤ 1000000 → m + lv ≤ 1000000 → Nm w u n → Nm w v m →
    Calls Tacg.prog 17 #[u, v, .int .u8 lv] w fun r w' => ∃ x, r = .returned x ∧ NatB w' x w.heap.size (n + m) ∧ Below w.heap.size w w' := by
  induction lv with
  | zero =>
    intro _ u v n m w hn hm hu hv
    obtain ⟨p, n1, rfl, a1, a2, a3⟩ := hu.form
    obtain ⟨q, m1, rfl, b1, b2, b3⟩ := hv.form
    have HU := hide (normal_sl a2 a3)
    have HV := hide (normal_sl b2 b3)
    have HS := hide (school_any (by omega) w hu hv)
    clear hu hv a3 b3
    go_enter Tacg.func17, Tacg.ntmps17
    go_wp2_with fail
    refine HU.out.mono ?_
    rintro e w' ⟨rfl, hw⟩; obtain rfl := hw.symm
    go_wp2_with fail
    refine HV.out.mono ?_
    rintro e w' ⟨rfl, hw⟩; obtain rfl := hw.symm
    go_wp2_with fail
    refine HS.out.mono ?_
    rintro e w' ⟨x, rfl, hx, hB⟩
    go_wp2_with fail
    go_ret
    exact ⟨x, rfl, hx, hB⟩
  | succ lv ih =>
    intro hlv u v n m w hn hm hu hv
    obtain ⟨p, n1, rfl, a1, a2, a3⟩ := hu.form
    obtain ⟨q, m1, rfl, b1, b2, b3⟩ := hv.form
    have HU := hide (normal_sl a2 a3)
    have HV := hide (normal_sl b2 b3)
    have l0 : ((lv : Int) + 1 == 0) = false := by simp; omega
    by_cases c1 : n1 < 8 ∨ m1 < 8
    · have HS := hide (school_any (by omega) w hu hv)
      clear hu hv a3 b3
      rcases Nat.lt_or_ge n1 8 with c2 | c2
      · have d1 : decide ((n1 : Int) < 8) = true := by simp; omega
        have d2 : True := trivial
        go_enter Tacg.func17, Tacg.ntmps17
        go_wp2_with fail
        refine HU.out.mono ?_
        rintro e w' ⟨rfl, hw⟩; obtain rfl := hw.symm
        go_wp2_with fail
        refine HV.out.mono ?_
        rintro e w' ⟨rfl, hw⟩; obtain rfl := hw.symm
        go_wp2_with fail
        refine HS.out.mono ?_
        rintro e w' ⟨x, rfl, hx, hB⟩
        go_wp2_with fail
        go_ret
        exact ⟨x, rfl, hx, hB⟩
      · have d1 : decide ((n1 : Int) < 8) = false := by simp; omega
        have d2 : decide ((m1 : Int) < 8) = true := by simp; omega
        go_enter Tacg.func17, Tacg.ntmps17
        go_wp2_with fail
        refine HU.out.mono ?_
        rintro e w' ⟨rfl, hw⟩; obtain rfl := hw.symm
        go_wp2_with fail
        refine HV.out.mono ?_
        rintro e w' ⟨rfl, hw⟩; obtain rfl := hw.symm
        go_wp2_with fail
        refine HS.out.mono ?_
        rintro e w' ⟨x, rfl, hx, hB⟩
        go_wp2_with fail
        go_ret
        exact ⟨x, rfl, hx, hB⟩
    · have d1 : decide ((n1 : Int) < 8) = false := by simp; omega
      have d2 : decide ((m1 : Int) < 8) = false := by simp; omega
      have HA := hide a3
      have HBB := hide b3
      have c8 : 8 ≤ n1 ∧ 8 ≤ m1 := by omega
      clear hu hv a3 b3 c1
      go_enter Tacg.func17, Tacg.ntmps17
      go_wp2_with fail
      refine HU.out.mono ?_
      rintro e w' ⟨rfl, hw⟩; obtain rfl := hw.symm
      go_wp2_with fail
      refine HV.out.mono ?_
      rintro e w' ⟨rfl, hw⟩; obtain rfl := hw.symm
      clear hw HU HV
      by_cases c3 : n1 < m1
      · have c3' : (n1 : Int) < (m1 : Int) := by omega
        have eh : ((m1 : Int) + 1) / 2 = (((m1 + 1) / 2 : Nat) : Int) := by omega
        have hh0 : 0 < (m1 + 1) / 2 := by omega
        have hh1 : (m1 + 1) / 2 + (m1 + 1) / 2 ≤ n1 + m1 := by omega
        generalize (m1 + 1) / 2 = h at *
        go_wp2_with fail
        try rw [eh]
        refine (halves_any (v := .slice none 0 0) (h := h) a2 hh0 w p HA.out).mono ?_
        rintro e w1 ⟨x0, x1, rfl, hx0, hx1, d1, hw1⟩
        have hB1 : Below w.heap.size w w1 := by rw [hw1]; exact below_dN (Below.refl _ _) _
        have HX1 := hide (And.intro hx0 hx1)
        have HB1 := hide hB1
        have HQ1 := hide (HBB.out.below hB1)
        clear hx0 hx1 hB1 hw1 HA HBB
        go_wp2_with fail
        try rw [eh]
        refine (halves_any (v := .slice none 0 0) (h := h) b2 hh0 w1 q HQ1.out).mono ?_
        rintro e w2 ⟨y0, y1, rfl, hy0, hy1, d2, hw2⟩
        have hB2 : Below w1.heap.size w1 w2 := by rw [hw2]; exact below_dN (Below.refl _ _) _
        have HX2 := hide (And.intro (HX1.out.1.below hB2) (HX1.out.2.below hB2))
        have HY2 := hide (And.intro hy0 hy1)
        have HB2 := hide (belowTr HB1.out hB2)
        clear hy0 hy1 hB2 hw2 HX1 HB1 HQ1
        go_wp2_with fail
        refine (ih (by omega) x0 y0 n1 m1 w2 (by omega) (by omega) HX2.out.1 HY2.out.1).mono ?_
        rintro e w3 ⟨z0, rfl, hz0, hB3⟩
        obtain ⟨r0, N0, rfl, hN0, hN0', hz0s⟩ := hz0.nm.form
        have HX3 := hide (And.intro (HX2.out.1.below hB3) (HX2.out.2.below hB3))
        have HY3 := hide (And.intro (HY2.out.1.below hB3) (HY2.out.2.below hB3))
        have HZ3 := hide hz0s
        have HB3 := hide (belowTr HB2.out hB3)
        clear hz0 hz0s hB3 HX2 HY2 HB2
        go_wp2_with fail
        refine (ih (by omega) x1 y1 n1 m1 w3 (by omega) (by omega) HX3.out.2 HY3.out.2).mono ?_
        rintro e w4 ⟨z2, rfl, hz2, hB4⟩
        obtain ⟨r2, N2, rfl, hN2, hN2', hz2s⟩ := hz2.nm.form
        have HX4 := hide (And.intro (HX3.out.1.below hB4) (HX3.out.2.below hB4))
        have HY4 := hide (And.intro (HY3.out.1.below hB4) (HY3.out.2.below hB4))
        have HZ4 := hide (And.intro (HZ3.out.below hB4) hz2s)
        have HB4 := hide (belowTr HB3.out hB4)
        clear hz2 hz2s hB4 HX3 HY3 HZ3 HB3
        go_wp2_with fail
        refine (add_nm (by omega) (by omega) w4 HX4.out.1 HX4.out.2).mono ?_
        rintro e w5 ⟨s1, rfl, hs1, hB5⟩
        have HY5 := hide (And.intro (HY4.out.1.below hB5) (HY4.out.2.below hB5))
        have HZ5 := hide (And.intro (HZ4.out.1.below hB5) (HZ4.out.2.below hB5))
        have HS5 := hide hs1.nm
        have HB5 := hide (belowTr HB4.out hB5)
        clear hs1 hB5 HX4 HY4 HZ4 HB4
        go_wp2_with fail
        refine (add_nm (by omega) (by omega) w5 HY5.out.1 HY5.out.2).mono ?_
        rintro e w6 ⟨s2, rfl, hs2, hB6⟩
        have HZ6 := hide (And.intro (HZ5.out.1.below hB6) (HZ5.out.2.below hB6))
        have HS6 := hide (And.intro (HS5.out.below hB6) hs2.nm)
        have HB6 := hide (belowTr HB5.out hB6)
        clear hs2 hB6 HY5 HZ5 HS5 HB5
        go_wp2_with fail
        refine (ih (by omega) s1 s2 _ _ w6 (by omega) (by omega) HS6.out.1 HS6.out.2).mono ?_
        rintro e w7 ⟨z1, rfl, hz1, hB7⟩
        obtain ⟨r1, N1, rfl, hN1', hN1, hz1r⟩ := hz1.rz
        have HZ7 := hide (show ∀ W, Below w6.heap.size w7 W → Sl W r0 N0 ∧ Sl W r2 N2 from fun W hW => ⟨HZ6.out.1.below (hB7.trans hW), HZ6.out.2.below (hB7.trans hW)⟩)
        have HR7 := hide hz1r
        have HB7 := hide (belowTr HB6.out hB7)
        have HS7 := hide (show w.heap.size ≤ w6.heap.size from HB6.out.size)
        clear hz1 hz1r hB7 HZ6 HS6 HB6
        go_wp2_with fail
        refine (subFrom_u r1 r0 N1 N0 w6.heap.size hN1 w7 HR7.out (fun W hW => (HZ7.out W hW).1)).mono ?_
        rintro e w8 ⟨rfl, hR8, hB8⟩
        have HR8 := hide hR8
        have HZ8 := hide (show ∀ W, Below w6.heap.size w8 W → Sl W r0 N0 ∧ Sl W r2 N2 from fun W hW => HZ7.out W (hB8.trans hW))
        have HB8 := hide (HB7.out.trans (hB8.mono HS7.out))
        clear hR8 hB8 HZ7 HR7 HB7
        go_wp2_with fail
        refine (subFrom_u r1 r2 N1 N2 w6.heap.size hN1 w8 HR8.out (fun W hW => (HZ8.out W hW).2)).mono ?_
        rintro e w9 ⟨rfl, hR9, hB9⟩
        have HR9 := hide hR9
        have HZ9 := hide (HZ8.out w9 hB9)
        have HB9 := hide (HB8.out.trans (hB9.mono HS7.out))
        clear hR9 hB9 HZ8 HR8 HB8
        have rm := make23a n1 m1 (by omega)
        have RX := hide (RowX.new w9 (n1 + m1))
        have A10 := (Below.refl w9.heap.size w9).alloc (Nat.le_refl _) (.cells (rowL (n1 + m1) fun _ => 0).toArray 5)
        have HZ10 := hide (HZ9.out.1.below A10)
        have HA10 := hide A10
        have h2i : 2 * (h : Int) ≤ (n1 : Int) + (m1 : Int) := by omega
        clear A10
        by_cases c4 : N2 = 0
        · have c4' : ¬ (0 : Int) < (N2 : Int) := by omega
          go_wp2_with (refine wpList_copyD rfl (.tmp 91) (.tmp 92) 23 23 rfl Tacg.underlying23 w9.heap.size 0 (n1 + m1) (n1 + m1) (n1 + m1) r0 N0 rfl rfl (by omega) RX.out HZ10.out ?_; intro w11 cz hX11 hB11)
          have AW := hide (HA10.out.trans (hB11))
          have BW := hide (HB9.out.trans (AW.out.mono HB9.out.size))
          obtain ⟨zp, zm, hzs, hzm, hzn⟩ := normal_rz r1 N1 _ hN1 w9 HR9.out
          have HZ := hide (And.intro (show ∀ d W, Below w9.heap.size (w11.drewN d) W → Sl W zp zm from fun d W hW => hzs.below ((below_dN AW.out d).trans hW)) (show ∀ d, Calls Tacg.prog 73 #[.slice r1 N1 N1] (w11.drewN d) fun e w' => e = .returned (.slice zp zm zm) ∧ w' = w11.drewN d from fun d => hzn _ (below_dN AW.out d)))
          have HXD := hide hX11.d
          have h3i : (h : Int) ≤ (n1 : Int) + (m1 : Int) := by omega
          have h4i : (h : Int) < (n1 : Int) + (m1 : Int) := by omega
          have h5i : ¬ (h : Int) = (n1 : Int) + (m1 : Int) := by omega
          have WLE := HB9.out.size
          clear hzs hzn HZ9 HR9 HB9 HA10
          try simp only [Act.put, List.setIfInBounds_toArray, List.set_cons_zero, List.set_cons_succ]
          refine wp_region_mid 9 (by kernel_rfl) (by decide) (by kernel_rfl) (by kernel_rfl) (by kernel_rfl) (by kernel_rfl) ⟨by kernel_rfl, by kernel_rfl⟩ ?_
          simp only [List.take_succ_cons, List.take_zero, List.drop_succ_cons, List.drop_zero, List.drop_nil]
          repeat (go_big_quiet_step (first | (go_at_call 73; refine Calls.quiet_of_same (HZ.out.2 _))))
          refine wpQuiet_nil ?_
          rintro w' ⟨nq, rfl⟩
          refine wpOp_by rfl rfl (fun K hK => ?_)
          go_simp
          refine (addAt_any w9.heap.size (n1 + m1) h (n1 + m1 - h) zm zp (by omega) (by omega) _ HXD.out.drewN (HZ.out.1 nq)).mono ?_
          rintro e w13 ⟨rfl, hR13, hB13⟩
          have hBZ : Below w.heap.size w w13 := (below_dN BW.out nq).trans (hB13.mono WLE)
          obtain ⟨k13, hk13, hr13⟩ := hR13
          have HR13 := hide (And.intro hk13 (And.intro hr13 hBZ))
          clear hB13 hk13 hr13 hBZ HZ HXD AW BW
          apply hK
          refine ⟨fun w' => w' = w13, rfl, wpQuiet_nil ?_⟩
          rintro w' rfl
          go_wp2_with fail
          refine (normal_any w9.heap.size 0 (n1 + m1) (n1 + m1) k13 (Nat.le_refl _) (by omega) _ HR13.out.2.1.cells).mono ?_
          rintro e w' ⟨rfl, hw⟩; obtain rfl := hw.symm
          go_wp2_with fail
          go_ret
          exact ⟨_, rfl, (natB_trimV (by omega) WLE HR13.out.1 HR13.out.2.1).mono (Nat.le_refl _) (by omega), HR13.out.2.2⟩
        · have c4' : (0 : Int) < (N2 : Int) := by omega
          go_wp2_with (first | (refine wpList_copyD rfl (.tmp 91) (.tmp 92) 23 23 rfl Tacg.underlying23 w9.heap.size 0 (n1 + m1) (n1 + m1) (n1 + m1) r0 N0 rfl rfl (by omega) RX.out HZ10.out ?_; intro w11 cz hX11 hB11) | (refine wpList_copyD rfl (.tmp 100) (.tmp 101) 23 23 rfl Tacg.underlying23 w9.heap.size (2 * h) (n1 + m1) (n1 + m1 - 2 * h) (n1 + m1 - 2 * h) r2 N2 rfl rfl (by omega) hX11 (HZ9.out.2.below (HA10.out.trans hB11)) ?_; intro w12 cz2 hX12 hB12))
          have AW := hide (HA10.out.trans (hB11.trans hB12))
          have BW := hide (HB9.out.trans (AW.out.mono HB9.out.size))
          obtain ⟨zp, zm, hzs, hzm, hzn⟩ := normal_rz r1 N1 _ hN1 w9 HR9.out
          have HZ := hide (And.intro (show ∀ d W, Below w9.heap.size (w12.drewN d) W → Sl W zp zm from fun d W hW => hzs.below ((below_dN AW.out d).trans hW)) (show ∀ d, Calls Tacg.prog 73 #[.slice r1 N1 N1] (w12.drewN d) fun e w' => e = .returned (.slice zp zm zm) ∧ w' = w12.drewN d from fun d => hzn _ (below_dN AW.out d)))
          have HXD := hide hX12.d
          have h3i : (h : Int) ≤ (n1 : Int) + (m1 : Int) := by omega
          have h4i : (h : Int) < (n1 : Int) + (m1 : Int) := by omega
          have h5i : ¬ (h : Int) = (n1 : Int) + (m1 : Int) := by omega
          have WLE := HB9.out.size
          clear hzs hzn HZ9 HR9 HB9 HA10
          try simp only [Act.put, List.setIfInBounds_toArray, List.set_cons_zero, List.set_cons_succ]
          refine wp_region_mid 9 (by kernel_rfl) (by decide) (by kernel_rfl) (by kernel_rfl) (by kernel_rfl) (by kernel_rfl) ⟨by kernel_rfl, by kernel_rfl⟩ ?_
          simp only [List.take_succ_cons, List.take_zero, List.drop_succ_cons, List.drop_zero, List.drop_nil]
          repeat (go_big_quiet_step (first | (go_at_call 73; refine Calls.quiet_of_same (HZ.out.2 _))))
          refine wpQuiet_nil ?_
          rintro w' ⟨nq, rfl⟩
          refine wpOp_by rfl rfl (fun K hK => ?_)
          go_simp
          refine (addAt_any w9.heap.size (n1 + m1) h (n1 + m1 - h) zm zp (by omega) (by omega) _ HXD.out.drewN (HZ.out.1 nq)).mono ?_
          rintro e w13 ⟨rfl, hR13, hB13⟩
          have hBZ : Below w.heap.size w w13 := (below_dN BW.out nq).trans (hB13.mono WLE)
          obtain ⟨k13, hk13, hr13⟩ := hR13
          have HR13 := hide (And.intro hk13 (And.intro hr13 hBZ))
          clear hB13 hk13 hr13 hBZ HZ HXD AW BW
          apply hK
          refine ⟨fun w' => w' = w13, rfl, wpQuiet_nil ?_⟩
          rintro w' rfl
          go_wp2_with fail
          refine (normal_any w9.heap.size 0 (n1 + m1) (n1 + m1) k13 (Nat.le_refl _) (by omega) _ HR13.out.2.1.cells).mono ?_
          rintro e w' ⟨rfl, hw⟩; obtain rfl := hw.symm
          go_wp2_with fail
          go_ret
          exact ⟨_, rfl, (natB_trimV (by omega) WLE HR13.out.1 HR13.out.2.1).mono (Nat.le_refl _) (by omega), HR13.out.2.2⟩
      · have c3' : ¬ (n1 : Int) < (m1 : Int) := by omega
        have eh : ((n1 : Int) + 1) / 2 = (((n1 + 1) / 2 : Nat) : Int) := by omega
        have hh0 : 0 < (n1 + 1) / 2 := by omega
        have hh1 : (n1 + 1) / 2 + (n1 + 1) / 2 ≤ n1 + m1 := by omega
        generalize (n1 + 1) / 2 = h at *
        go_wp2_with fail
        try rw [eh]
        refine (halves_any (v := .slice none 0 0) (h := h) a2 hh0 w p HA.out).mono ?_
        rintro e w1 ⟨x0, x1, rfl, hx0, hx1, d1, hw1⟩
        have hB1 : Below w.heap.size w w1 := by rw [hw1]; exact below_dN (Below.refl _ _) _
        have HX1 := hide (And.intro hx0 hx1)
        have HB1 := hide hB1
        have HQ1 := hide (HBB.out.below hB1)
        clear hx0 hx1 hB1 hw1 HA HBB
        go_wp2_with fail
        try rw [eh]
        refine (halves_any (v := .slice none 0 0) (h := h) b2 hh0 w1 q HQ1.out).mono ?_
        rintro e w2 ⟨y0, y1, rfl, hy0, hy1, d2, hw2⟩
        have hB2 : Below w1.heap.size w1 w2 := by rw [hw2]; exact below_dN (Below.refl _ _) _
        have HX2 := hide (And.intro (HX1.out.1.below hB2) (HX1.out.2.below hB2))
        have HY2 := hide (And.intro hy0 hy1)
        have HB2 := hide (belowTr HB1.out hB2)
        clear hy0 hy1 hB2 hw2 HX1 HB1 HQ1
        go_wp2_with fail
        refine (ih (by omega) x0 y0 n1 m1 w2 (by omega) (by omega) HX2.out.1 HY2.out.1).mono ?_
        rintro e w3 ⟨z0, rfl, hz0, hB3⟩
        obtain ⟨r0, N0, rfl, hN0, hN0', hz0s⟩ := hz0.nm.form
        have HX3 := hide (And.intro (HX2.out.1.below hB3) (HX2.out.2.below hB3))
        have HY3 := hide (And.intro (HY2.out.1.below hB3) (HY2.out.2.below hB3))
        have HZ3 := hide hz0s
        have HB3 := hide (belowTr HB2.out hB3)
        clear hz0 hz0s hB3 HX2 HY2 HB2
        go_wp2_with fail
        refine (ih (by omega) x1 y1 n1 m1 w3 (by omega) (by omega) HX3.out.2 HY3.out.2).mono ?_
        rintro e w4 ⟨z2, rfl, hz2, hB4⟩
        obtain ⟨r2, N2, rfl, hN2, hN2', hz2s⟩ := hz2.nm.form
        have HX4 := hide (And.intro (HX3.out.1.below hB4) (HX3.out.2.below hB4))
        have HY4 := hide (And.intro (HY3.out.1.below hB4) (HY3.out.2.below hB4))
        have HZ4 := hide (And.intro (HZ3.out.below hB4) hz2s)
        have HB4 := hide (belowTr HB3.out hB4)
        clear hz2 hz2s hB4 HX3 HY3 HZ3 HB3
        go_wp2_with fail
        refine (add_nm (by omega) (by omega) w4 HX4.out.1 HX4.out.2).mono ?_
        rintro e w5 ⟨s1, rfl, hs1, hB5⟩
        have HY5 := hide (And.intro (HY4.out.1.below hB5) (HY4.out.2.below hB5))
        have HZ5 := hide (And.intro (HZ4.out.1.below hB5) (HZ4.out.2.below hB5))
        have HS5 := hide hs1.nm
        have HB5 := hide (belowTr HB4.out hB5)
        clear hs1 hB5 HX4 HY4 HZ4 HB4
        go_wp2_with fail
        refine (add_nm (by omega) (by omega) w5 HY5.out.1 HY5.out.2).mono ?_
        rintro e w6 ⟨s2, rfl, hs2, hB6⟩
        have HZ6 := hide (And.intro (HZ5.out.1.below hB6) (HZ5.out.2.below hB6))
        have HS6 := hide (And.intro (HS5.out.below hB6) hs2.nm)
        have HB6 := hide (belowTr HB5.out hB6)
        clear hs2 hB6 HY5 HZ5 HS5 HB5
        go_wp2_with fail
        refine (ih (by omega) s1 s2 _ _ w6 (by omega) (by omega) HS6.out.1 HS6.out.2).mono ?_
        rintro e w7 ⟨z1, rfl, hz1, hB7⟩
        obtain ⟨r1, N1, rfl, hN1', hN1, hz1r⟩ := hz1.rz
        have HZ7 := hide (show ∀ W, Below w6.heap.size w7 W → Sl W r0 N0 ∧ Sl W r2 N2 from fun W hW => ⟨HZ6.out.1.below (hB7.trans hW), HZ6.out.2.below (hB7.trans hW)⟩)
        have HR7 := hide hz1r
        have HB7 := hide (belowTr HB6.out hB7)
        have HS7 := hide (show w.heap.size ≤ w6.heap.size from HB6.out.size)
        clear hz1 hz1r hB7 HZ6 HS6 HB6
        go_wp2_with fail
        refine (subFrom_u r1 r0 N1 N0 w6.heap.size hN1 w7 HR7.out (fun W hW => (HZ7.out W hW).1)).mono ?_
        rintro e w8 ⟨rfl, hR8, hB8⟩
        have HR8 := hide hR8
        have HZ8 := hide (show ∀ W, Below w6.heap.size w8 W → Sl W r0 N0 ∧ Sl W r2 N2 from fun W hW => HZ7.out W (hB8.trans hW))
        have HB8 := hide (HB7.out.trans (hB8.mono HS7.out))
        clear hR8 hB8 HZ7 HR7 HB7
        go_wp2_with fail
        refine (subFrom_u r1 r2 N1 N2 w6.heap.size hN1 w8 HR8.out (fun W hW => (HZ8.out W hW).2)).mono ?_
        rintro e w9 ⟨rfl, hR9, hB9⟩
        have HR9 := hide hR9
        have HZ9 := hide (HZ8.out w9 hB9)
        have HB9 := hide (HB8.out.trans (hB9.mono HS7.out))
        clear hR9 hB9 HZ8 HR8 HB8
        have rm := make23a n1 m1 (by omega)
        have RX := hide (RowX.new w9 (n1 + m1))
        have A10 := (Below.refl w9.heap.size w9).alloc (Nat.le_refl _) (.cells (rowL (n1 + m1) fun _ => 0).toArray 5)
        have HZ10 := hide (HZ9.out.1.below A10)
        have HA10 := hide A10
        have h2i : 2 * (h : Int) ≤ (n1 : Int) + (m1 : Int) := by omega
        clear A10
        by_cases c4 : N2 = 0
        · have c4' : ¬ (0 : Int) < (N2 : Int) := by omega
          go_wp2_with (refine wpList_copyD rfl (.tmp 91) (.tmp 92) 23 23 rfl Tacg.underlying23 w9.heap.size 0 (n1 + m1) (n1 + m1) (n1 + m1) r0 N0 rfl rfl (by omega) RX.out HZ10.out ?_; intro w11 cz hX11 hB11)
          have AW := hide (HA10.out.trans (hB11))
          have BW := hide (HB9.out.trans (AW.out.mono HB9.out.size))
          obtain ⟨zp, zm, hzs, hzm, hzn⟩ := normal_rz r1 N1 _ hN1 w9 HR9.out
          have HZ := hide (And.intro (show ∀ d W, Below w9.heap.size (w11.drewN d) W → Sl W zp zm from fun d W hW => hzs.below ((below_dN AW.out d).trans hW)) (show ∀ d, Calls Tacg.prog 73 #[.slice r1 N1 N1] (w11.drewN d) fun e w' => e = .returned (.slice zp zm zm) ∧ w' = w11.drewN d from fun d => hzn _ (below_dN AW.out d)))
          have HXD := hide hX11.d
          have h3i : (h : Int) ≤ (n1 : Int) + (m1 : Int) := by omega
          have h4i : (h : Int) < (n1 : Int) + (m1 : Int) := by omega
          have h5i : ¬ (h : Int) = (n1 : Int) + (m1 : Int) := by omega
          have WLE := HB9.out.size
          clear hzs hzn HZ9 HR9 HB9 HA10
          try simp only [Act.put, List.setIfInBounds_toArray, List.set_cons_zero, List.set_cons_succ]
          refine wp_region_mid 9 (by kernel_rfl) (by decide) (by kernel_rfl) (by kernel_rfl) (by kernel_rfl) (by kernel_rfl) ⟨by kernel_rfl, by kernel_rfl⟩ ?_
          simp only [List.take_succ_cons, List.take_zero, List.drop_succ_cons, List.drop_zero, List.drop_nil]
          repeat (go_big_quiet_step (first | (go_at_call 73; refine Calls.quiet_of_same (HZ.out.2 _))))
          refine wpQuiet_nil ?_
          rintro w' ⟨nq, rfl⟩
          refine wpOp_by rfl rfl (fun K hK => ?_)
          go_simp
          refine (addAt_any w9.heap.size (n1 + m1) h (n1 + m1 - h) zm zp (by omega) (by omega) _ HXD.out.drewN (HZ.out.1 nq)).mono ?_
          rintro e w13 ⟨rfl, hR13, hB13⟩
          have hBZ : Below w.heap.size w w13 := (below_dN BW.out nq).trans (hB13.mono WLE)
          obtain ⟨k13, hk13, hr13⟩ := hR13
          have HR13 := hide (And.intro hk13 (And.intro hr13 hBZ))
          clear hB13 hk13 hr13 hBZ HZ HXD AW BW
          apply hK
          refine ⟨fun w' => w' = w13, rfl, wpQuiet_nil ?_⟩
          rintro w' rfl
          go_wp2_with fail
          refine (normal_any w9.heap.size 0 (n1 + m1) (n1 + m1) k13 (Nat.le_refl _) (by omega) _ HR13.out.2.1.cells).mono ?_
          rintro e w' ⟨rfl, hw⟩; obtain rfl := hw.symm
          go_wp2_with fail
          go_ret
          exact ⟨_, rfl, (natB_trimV (by omega) WLE HR13.out.1 HR13.out.2.1).mono (Nat.le_refl _) (by omega), HR13.out.2.2⟩
        · have c4' : (0 : Int) < (N2 : Int) := by omega
          go_wp2_with (first | (refine wpList_copyD rfl (.tmp 91) (.tmp 92) 23 23 rfl Tacg.underlying23 w9.heap.size 0 (n1 + m1) (n1 + m1) (n1 + m1) r0 N0 rfl rfl (by omega) RX.out HZ10.out ?_; intro w11 cz hX11 hB11) | (refine wpList_copyD rfl (.tmp 100) (.tmp 101) 23 23 rfl Tacg.underlying23 w9.heap.size (2 * h) (n1 + m1) (n1 + m1 - 2 * h) (n1 + m1 - 2 * h) r2 N2 rfl rfl (by omega) hX11 (HZ9.out.2.below (HA10.out.trans hB11)) ?_; intro w12 cz2 hX12 hB12))
          have AW := hide (HA10.out.trans (hB11.trans hB12))
          have BW := hide (HB9.out.trans (AW.out.mono HB9.out.size))
          obtain ⟨zp, zm, hzs, hzm, hzn⟩ := normal_rz r1 N1 _ hN1 w9 HR9.out
          have HZ := hide (And.intro (show ∀ d W, Below w9.heap.size (w12.drewN d) W → Sl W zp zm from fun d W hW => hzs.below ((below_dN AW.out d).trans hW)) (show ∀ d, Calls Tacg.prog 73 #[.slice r1 N1 N1] (w12.drewN d) fun e w' => e = .returned (.slice zp zm zm) ∧ w' = w12.drewN d from fun d => hzn _ (below_dN AW.out d)))
          have HXD := hide hX12.d
          have h3i : (h : Int) ≤ (n1 : Int) + (m1 : Int) := by omega
          have h4i : (h : Int) < (n1 : Int) + (m1 : Int) := by omega
          have h5i : ¬ (h : Int) = (n1 : Int) + (m1 : Int) := by omega
          have WLE := HB9.out.size
          clear hzs hzn HZ9 HR9 HB9 HA10
          try simp only [Act.put, List.setIfInBounds_toArray, List.set_cons_zero, List.set_cons_succ]
          refine wp_region_mid 9 (by kernel_rfl) (by decide) (by kernel_rfl) (by kernel_rfl) (by kernel_rfl) (by kernel_rfl) ⟨by kernel_rfl, by kernel_rfl⟩ ?_
          simp only [List.take_succ_cons, List.take_zero, List.drop_succ_cons, List.drop_zero, List.drop_nil]
          repeat (go_big_quiet_step (first | (go_at_call 73; refine Calls.quiet_of_same (HZ.out.2 _))))
          refine wpQuiet_nil ?_
          rintro w' ⟨nq, rfl⟩
          refine wpOp_by rfl rfl (fun K hK => ?_)
          go_simp
          refine (addAt_any w9.heap.size (n1 + m1) h (n1 + m1 - h) zm zp (by omega) (by omega) _ HXD.out.drewN (HZ.out.1 nq)).mono ?_
          rintro e w13 ⟨rfl, hR13, hB13⟩
          have hBZ : Below w.heap.size w w13 := (below_dN BW.out nq).trans (hB13.mono WLE)
          obtain ⟨k13, hk13, hr13⟩ := hR13
          have HR13 := hide (And.intro hk13 (And.intro hr13 hBZ))
          clear hB13 hk13 hr13 hBZ HZ HXD AW BW
          apply hK
          refine ⟨fun w' => w' = w13, rfl, wpQuiet_nil ?_⟩
          rintro w' rfl
          go_wp2_with fail
          refine (normal_any w9.heap.size 0 (n1 + m1) (n1 + m1) k13 (Nat.le_refl _) (by omega) _ HR13.out.2.1.cells).mono ?_
          rintro e w' ⟨rfl, hw⟩; obtain rfl := hw.symm
          go_wp2_with fail
          go_ret
          exact ⟨_, rfl, (natB_trimV (by omega) WLE HR13.out.1 HR13.out.2.1).mono (Nat.le_refl _) (by omega), HR13.out.2.2⟩
end Go.Proofs.Ygctac
