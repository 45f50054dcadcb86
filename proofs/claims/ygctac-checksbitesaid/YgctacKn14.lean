/-
  calc.product, multiply, add, copied.
-/
import Derived.Test.YgctacKn13
namespace Go.Proofs.Ygctac
open Go.RowKit
set_option linter.unusedVariables false
set_option linter.unusedSimpArgs false

theorem top_last {f : Nat → Int} {n : Nat} (hn : 0 < n) (h : f (n - 1) ≠ 0) : top f n = n := by
  obtain ⟨m, rfl⟩ : ∃ m, n = m + 1 := ⟨n - 1, by omega⟩
  rw [Nat.add_sub_cancel] at h
  exact top_nz h
theorem last_top {f : Nat → Int} {n : Nat} (hn : 0 < n) (h : top f n = n) : f (n - 1) ≠ 0 := by
  obtain ⟨m, rfl⟩ : ∃ m, n = m + 1 := ⟨n - 1, by omega⟩
  rw [Nat.add_sub_cancel]
  intro h0
  rw [top_zero h0] at h
  have := top_le f m
  omega
/-- A normal entry reads as a number. -/
theorem ent_sl {W : World} {Z : Nat → Prop} {x : Ent} (hx : ∀ e, x = some e → EO W Z e) (hn : nrm x = true) : ∃ p l, vOf x = .slice p l l ∧ l ≤ 2000 ∧ Sl W p l := by
  cases x with
  | none => exact ⟨none, 0, rfl, by omega, .inl ⟨rfl, rfl⟩⟩
  | some e =>
    obtain ⟨h1, h2, h3, h4, h5, h6⟩ := hx e rfl
    obtain ⟨b, o, l, c, f⟩ := e
    simp only at h1 h2 h3 h4 h5 h6
    subst h2 h3
    simp only [nrm, Bool.and_eq_true, decide_eq_true_eq] at hn
    exact ⟨some ⟨b, 0, none⟩, _, rfl, h4, .inr ⟨b, 0, f, rfl, hn.1, top_last hn.1 hn.2, h5, h6.cells⟩⟩
theorem natB_ne {W w' : World} {Z : Nat → Prop} {mb : Nat} {v u : Value} {n : Nat} {S : Nat → Ent} {k : Nat} {Q : Nat → Int} {p : Value} {L : Nat} (h : MO W Z mb v u n S k Q) (hb : Below W.heap.size W w') (hp : NatB w' p W.heap.size L) (hL : L ≤ 2000) :
    ∃ x, p = vOf x ∧ nrm x = true ∧ NE w' Z S n x := by
  rcases hp with rfl | ⟨g, m, f, rfl, h1, h2, h3, h4, h5, h6, h7⟩
  · exact ⟨none, rfl, rfl, fun e he => by cases he⟩
  · refine ⟨some ⟨g, 0, m, m, f⟩, rfl, ?_, fun e he => ?_⟩
    · simp only [nrm, Bool.and_eq_true, decide_eq_true_eq]
      exact ⟨h2, last_top h2 h5⟩
    · cases he
      refine ⟨⟨h.fresh g h1, rfl, rfl, Nat.le_trans h3 hL, h6, h7⟩, fun i hi e' he' => ?_⟩
      have := (h.st.ent i hi e' he').2.2.2.2.2.lt
      simp only
      omega

def ProdR (w : World) (r : Ending) (w' : World) : Prop := ∃ p s, r = .returned (.tuple #[p, .bool s]) ∧ NatB w' p w.heap.size 2000 ∧ Below w.heap.size w w'
set_option maxRecDepth 100000 in
set_option maxHeartbeats 1000000 in
theorem product_any (eng : Nat) (he : eng ≤ 3) (p q : Option Addr) (l m : Nat) (hl : l ≤ 512) (hm : m ≤ 512) (w : World) (hp : Sl w p l) (hq : Sl w q m) :
    Calls Tacg.prog 140 #[.int .u8 eng, .slice p l l, .slice q m m] w fun r w' => ProdR w r w' := by
  have hp1 := hp.nm (by omega)
  have hq1 := hq.nm (by omega)
  have H0 : Hid (Calls Tacg.prog 18 #[.slice p l l, .slice q m m] w fun r w' => ∃ x, r = .returned x ∧ NatB w' x w.heap.size 2000 ∧ Below w.heap.size w w') := hide ((school_any (by omega) w hp1 hq1).mono (by rintro r w' ⟨x, h1, h2, h3⟩; exact ⟨x, h1, h2.mono (Nat.le_refl _) (by omega), h3⟩))
  have H1 : Hid (Calls Tacg.prog 17 #[.slice p l l, .slice q m m, .int .u8 8] w fun r w' => ∃ x, r = .returned x ∧ NatB w' x w.heap.size 2000 ∧ Below w.heap.size w w') := hide ((kara_any 8 (by omega) _ _ l m w (by omega) (by omega) hp1 hq1).mono (by rintro r w' ⟨x, h1, h2, h3⟩; exact ⟨x, h1, h2.mono (Nat.le_refl _) (by omega), h3⟩))
  have H2 := hide (mulFFT_any p q l m hl hm w hp hq)
  have H3 := hide (mulNTT_any p q l m hl hm w hp hq)
  clear hp hq hp1 hq1
  rcases (show eng = 0 ∨ eng = 1 ∨ eng = 2 ∨ eng = 3 by omega) with rfl | rfl | rfl | rfl
  · go_enter Tacg.func140, Tacg.ntmps140
    go_wp2_with fail
    refine H0.out.mono ?_
    rintro e w' ⟨x, rfl, h1, h2⟩
    have HH := hide (And.intro h1 h2)
    clear h1 h2
    go_wp2_with fail
    go_ret2
    exact ⟨_, _, rfl, HH.out⟩
  · go_enter Tacg.func140, Tacg.ntmps140
    go_wp2_with fail
    refine H1.out.mono ?_
    rintro e w' ⟨x, rfl, h1, h2⟩
    have HH := hide (And.intro h1 h2)
    clear h1 h2
    go_wp2_with fail
    go_ret2
    exact ⟨_, _, rfl, HH.out⟩
  · go_enter Tacg.func140, Tacg.ntmps140
    go_wp2_with fail
    refine H2.out.mono ?_
    rintro e w' ⟨x, s, rfl, h1, h2⟩
    have HH := hide (And.intro h1 h2)
    clear h1 h2
    go_wp2_with fail
    go_ret2
    exact ⟨_, _, rfl, HH.out⟩
  · go_enter Tacg.func140, Tacg.ntmps140
    go_wp2_with fail
    refine H3.out.mono ?_
    rintro e w' ⟨x, s, rfl, h1, h2⟩
    have HH := hide (And.intro h1 h2)
    clear h1 h2
    go_wp2_with fail
    go_ret2
    exact ⟨_, _, rfl, HH.out⟩

/-- What a step may leave of a machine. -/
def GoodR (Z : Nat → Prop) (W : World) (mb k : Nat) (Q : Nat → Int) (r : Ending) (w' : World) : Prop :=
  r = .returned (.tuple #[]) ∧ ∃ v u n S k' Q', MO w' Z mb v u n S k' Q' ∧ n ≤ 16 ∧ allN n S = true ∧ k ≤ k' ∧ k' ≤ k + 1 ∧ (∀ i, i < k → Q' i = Q i) ∧ KZ Z W w'
theorem allN_put {n m : Nat} {S : Nat → Ent} {x : Ent} (h : allN n S = true) (hm : m ≤ n) (hx : nrm x = true) : allN (m + 1) (fun i => if i = m then x else S i) = true := by
  refine allN_true (fun i hi => ?_)
  by_cases c : i = m
  · simp only [c, if_true]; exact hx
  · simp only [c, if_false]; exact allN_at h (by omega)
theorem PutR.good {Z : Nat → Prop} {W W0 : World} {mb : Nat} {v : Value} {n : Nat} {S : Nat → Ent} {k : Nat} {Q : Nat → Int} {z : Int} {r : Ending} {w' : World} (h : PutR Z W mb v n S (k + 1) (fun i => if i = k then z else Q i) r w') (hn : n ≤ 16) (hA : allN n S = true) (h0 : KZ Z W0 W) : GoodR Z W0 mb k Q r w' := by
  obtain ⟨h1, u', h2, h3, _⟩ := h
  exact ⟨h1, v, u', n, S, k + 1, _, h2, hn, hA, by omega, by omega, fun i hi => by simp [show i ≠ k by omega], h0.trans h3⟩

set_option maxRecDepth 100000 in
set_option maxHeartbeats 2000000 in
theorem multiply_mo (Z : Nat → Prop) (mb eng cnt : Nat) (he : eng ≤ 3) (p q : Option Addr) (l m : Nat) (v u : Value) (n : Nat) (S : Nat → Ent) (k : Nat) (Q : Nat → Int) (W : World) (h : MO W Z mb v u n S k Q) (hn : n ≤ 16) (hA : allN n S = true) (hk : k ≤ 140737488355328) (hc0 : 0 < cnt) (hc : cnt ≤ n)
    (hl : l ≤ 140737488355328) (hm : m ≤ 140737488355328) (hp : Sl W p l) (hq : Sl W q m) :
    Calls Tacg.prog 84 #[.pointer (some ⟨mb, 0, none⟩), .int .u8 eng, .int .i64 cnt, .slice p l l, .slice q m m] W fun r w' => GoodR Z W mb k Q r w' := by
  have HM := hide h
  have HAA := hide hA
  by_cases c1 : l ≤ 512 ∧ m ≤ 512
  · have t1 : ¬ ((512 : Int) < (l : Int)) := by omega
    have t2 : ¬ ((512 : Int) < (m : Int)) := by omega
    have HP := hide (product_any eng he p q l m c1.1 c1.2 W hp hq)
    clear h hA hp hq
    go_enter Tacg.func84, Tacg.ntmps84
    go_wp2_with fail
    refine HP.out.mono ?_
    rintro e w1 ⟨pv, s, rfl, hN, hB⟩
    obtain ⟨x, rfl, hx1, hx2⟩ := natB_ne HM.out hB hN (by omega)
    have hx3 : NE w1 Z S (n - cnt) x := fun e he => ⟨(hx2 e he).1, fun i hi => (hx2 e he).2 i (by omega)⟩
    have HR := hide (replace_mo Z mb cnt x v u n S k Q w1 (HM.out.after hB) (by omega) hc hx3)
    have HK := hide (KZ.of (Z := Z) hB)
    have HX1 := hide hx1
    clear hN hB hx1 hx2 hx3 HP
    obtain ⟨xp, xl, xc, hxv⟩ := vOf_slice x
    rw [hxv] at HR ⊢
    clear hxv
    go_wp2_with fail
    refine HR.out.mono ?_
    rintro e w2 ⟨rfl, v', hM2, hK2⟩
    have HM2 := hide hM2
    have HK2 := hide (HK.out.trans hK2)
    clear hM2 hK2 HR HK
    cases s
    · go_wp2_with fail
      refine (put_any Z mb (-3) v' u _ _ k Q w2 HM2.out hk).mono ?_
      rintro e w3 hP3
      have HP3 := hide (hP3.good (by omega) (allN_put HAA.out (by omega) HX1.out) HK2.out)
      obtain rfl := hP3.1
      clear hP3
      go_wp2_with fail
      go_end0
      exact HP3.out
    · go_wp2_with fail
      go_end0
      exact ⟨rfl, v', u, _, _, k, Q, HM2.out, by omega, allN_put HAA.out (by omega) HX1.out, by omega, by omega, fun i hi => rfl, HK2.out⟩
  · have HPT := hide (put_any Z mb (-2) v u n S k Q W h hk)
    clear h hA hp hq
    by_cases c2 : l ≤ 512
    · have t1 : ¬ ((512 : Int) < (l : Int)) := by omega
      have t2 : (512 : Int) < (m : Int) := by omega
      clear c1
      go_enter Tacg.func84, Tacg.ntmps84
      go_wp2_with fail
      refine HPT.out.mono ?_
      rintro e w3 hP3
      have HP3 := hide (hP3.good hn HAA.out (KZ.refl Z W))
      obtain rfl := hP3.1
      clear hP3
      go_wp2_with fail
      refine bodyPost_ret (results_none rfl _ _ _) rfl ?_
      exact HP3.out
    · have t1 : (512 : Int) < (l : Int) := by omega
      clear c1
      go_enter Tacg.func84, Tacg.ntmps84
      go_wp2_with fail
      refine HPT.out.mono ?_
      rintro e w3 hP3
      have HP3 := hide (hP3.good hn HAA.out (KZ.refl Z W))
      obtain rfl := hP3.1
      clear hP3
      go_wp2_with fail
      refine bodyPost_ret (results_none rfl _ _ _) rfl ?_
      exact HP3.out

theorem natB_tight {w : World} {p : Value} {B L : Nat} {pp : Option Addr} {ll : Nat} (h : NatB w p B L) (hp : p = .slice pp ll ll) : NatB w p B ll := by
  rcases h with h | ⟨g, n, f, h1, h2, h3, h4, h5⟩
  · exact .inl h
  · rw [h1] at hp
    cases hp
    exact .inr ⟨g, _, f, h1, h2, h3, Nat.le_refl _, h5⟩
theorem natB_len {w : World} {p : Value} {B L : Nat} (h : NatB w p B L) : ∃ pp l, p = .slice pp l l ∧ l ≤ L ∧ l ≤ 140737488355328 := by
  rcases h with rfl | ⟨g, n, f, rfl, _, _, h3, h4, _⟩
  · exact ⟨none, 0, rfl, by omega, by omega⟩
  · exact ⟨_, n, rfl, h3, h4⟩
set_option maxRecDepth 100000 in
set_option maxHeartbeats 2000000 in
theorem add_mo (Z : Nat → Prop) (mb : Nat) (p q : Option Addr) (l m : Nat) (v u : Value) (n : Nat) (S : Nat → Ent) (k : Nat) (Q : Nat → Int) (W : World) (h : MO W Z mb v u n S k Q) (hn : n ≤ 16) (hA : allN n S = true) (hk : k ≤ 140737488355328) (hc : 2 ≤ n)
    (hl : l ≤ 140737488355328) (hm : m ≤ 140737488355328) (hl' : l < 140737488355328) (hm' : m < 140737488355328) (hp : Sl W p l) (hq : Sl W q m) :
    Calls Tacg.prog 86 #[.pointer (some ⟨mb, 0, none⟩), .slice p l l, .slice q m m] W fun r w' => GoodR Z W mb k Q r w' := by
  have HM := hide h
  have HAA := hide hA
  have HP := hide (add_nm (u := .slice p l l) (v := .slice q m m) hl' hm' W (hp.nm hl) (hq.nm hm))
  clear h hA hp hq
  go_enter Tacg.func86, Tacg.ntmps86
  go_wp2_with fail
  refine HP.out.mono ?_
  rintro e w1 ⟨pv, rfl, hN, hB⟩
  obtain ⟨pp, ll, hpl, _, hll⟩ := natB_len hN
  have HK := hide (KZ.of (Z := Z) hB)
  have HPT := hide (put_any Z mb (-2) v u n S k Q w1 (HM.out.after hB) hk)
  have HBB := hide hB
  have HNN := hide hN
  have HPL := hide hpl
  rw [hpl]
  clear hN hB HP hpl
  by_cases c : 1024 < ll
  · have t : (1024 : Int) < (ll : Int) := by omega
    go_wp2_with fail
    refine HPT.out.mono ?_
    rintro e w3 hP3
    have HP3 := hide (hP3.good hn HAA.out HK.out)
    obtain rfl := hP3.1
    clear hP3
    go_wp2_with fail
    refine bodyPost_ret (results_none rfl _ _ _) rfl ?_
    exact HP3.out
  · have t : ¬ ((1024 : Int) < (ll : Int)) := by omega
    obtain ⟨x, hpx, hx1, hx2⟩ := natB_ne HM.out HBB.out (natB_tight HNN.out HPL.out) (by omega)
    have hx3 : NE w1 Z S (n - 2) x := fun e he => ⟨(hx2 e he).1, fun i hi => (hx2 e he).2 i (by omega)⟩
    have HR := hide (replace_mo Z mb 2 x v u n S k Q w1 (HM.out.after HBB.out) (by omega) hc hx3)
    have HX1 := hide hx1
    rw [← hpx, HPL.out] at HR
    clear hx1 hx2 hx3 hpx
    go_wp2_with fail
    refine HR.out.mono ?_
    rintro e w2 ⟨rfl, v', hM2, hK2⟩
    have HM2 := hide hM2
    have HK2 := hide (HK.out.trans hK2)
    clear hM2 hK2 HR HK
    go_wp2_with fail
    go_end0
    exact ⟨rfl, v', u, _, _, k, Q, HM2.out, by omega, allN_put HAA.out (by omega) HX1.out, by omega, by omega, fun i hi => rfl, HK2.out⟩

/-- The copy of an entry. -/
def CopR (w : World) (x : Ent) (r : Ending) (w' : World) : Prop := r = .returned (vOf (cp x w.heap.size)) ∧ CpOk w' x w.heap.size ∧ Below w.heap.size w w'
set_option maxRecDepth 100000 in
set_option maxHeartbeats 2000000 in
theorem copied_any (x : Ent) (w : World) (h : EntOk w x) : Calls Tacg.prog 83 #[vOf x] w fun r w' => CopR w x r w' := by
  cases x with
  | none =>
    show Calls Tacg.prog 83 #[.slice none 0 0] w _
    go_enter Tacg.func83, Tacg.ntmps83
    go_wp2
    go_ret
    exact ⟨rfl, fun e he => by (cases he), Below.refl _ _⟩
  | some e =>
    obtain ⟨b, o, l, c, f⟩ := e
    obtain ⟨h1, h2, h3, h4⟩ := h _ rfl
    simp only at h1 h2 h3 h4
    have rm := make23 l h2
    have HC := hide h4
    clear h4 h3
    show Calls Tacg.prog 83 #[.slice (some ⟨b, o, none⟩) l c] w _
    go_enter Tacg.func83, Tacg.ntmps83
    go_wp2_with fail
    have HR0 := hide (show OwnRow (w.alloc (.cells (rowL l fun _ => 0).toArray 5)) w.heap.size l (fun _ => 0) from RowAt.own (alloc_last _ _))
    have HB0 := hide (show Below w.heap.size w (w.alloc (.cells (rowL l fun _ => 0).toArray 5)) from (Below.refl _ _).alloc (Nat.le_refl _) _)
    clear rm
    generalize w.alloc (.cells (rowL l fun _ => 0).toArray 5) = w0 at *
    go_loopw [4] (fun s4 W1 => ∃ (i : Nat) (W : World), s4 = .int .i64 i ∧ i ≤ l ∧ W1 = W ∧ Hid (OwnRow W w.heap.size l (fun j => if j < i then f j else 0)) ∧ Hid (Below w.heap.size w W)) (fun s4 _ => l - (intOf s4).toNat)
    case atStart => exact ⟨0, _, rfl, Nat.zero_le _, rfl, hide (HR0.out.congr (fun i hi => by simp)), HB0⟩
    case round =>
      obtain ⟨i, W, rfl, hi, hw, hR, hB⟩ := hrel
      obtain rfl := hw.symm
      clear hw HR0 HB0
      by_cases ci : i < l
      · have ci' : (i : Int) < (l : Int) := by omega
        have hcs := HC.out i ci
        have hc2 : W.cell? ⟨b, o + i, none⟩ = some (.int .u8 (f i)) := by rw [hB.out.cell (World.block_lt_of_cell? w _ hcs), hcs]
        have hc3 := hR.out.cell i ci
        have hf3 := hR.out.frozen i
        clear hcs
        go_wp2_with fail
        go_roundw
        case rel =>
          refine ⟨i + 1, _, by go_num, by omega, rfl, hide ((hR.out.set i ci (f i)).congr (fun j hj => ?_)), hide (hB.out.setCell (p := ⟨w.heap.size, i, none⟩) (Nat.le_refl _) _)⟩
          by_cases e : j = i
          · simp [e]
          · simp only [e, if_false]
            by_cases e2 : j < i
            · simp [e2, show j < i + 1 by omega]
            · simp [e2, show ¬ j < i + 1 by omega]
        case measure => simp [intOf] <;> omega
      · obtain rfl : l = i := by omega
        go_wp2_with fail
        go_ret
        refine ⟨rfl, fun e he => ?_, hB.out⟩
        cases he
        exact hR.out.congr (fun j hj => by simp [hj])
end Go.Proofs.Ygctac
