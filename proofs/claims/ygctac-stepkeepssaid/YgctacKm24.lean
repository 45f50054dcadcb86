/-
  calc.Step whatever the operation; copied machines that own their memory.
-/
import Derived.Test.YgctacKm23
import Derived.Test.YgctacKs0
import Derived.Test.YgctacKs1
import Derived.Test.YgctacKs2
import Derived.Test.YgctacKs3
import Derived.Test.YgctacKs4
import Derived.Test.YgctacKs5
import Derived.Test.YgctacKs6
import Derived.Test.YgctacKs7
import Derived.Test.YgctacKs8
namespace Go.Proofs.Ygctac
open Go.RowKit
set_option linter.unusedVariables false
set_option linter.unusedSimpArgs false

theorem step_good (Z : Nat → Prop) (mb : Nat) (eng K : Int) (he0 : 0 ≤ eng) (hK0 : 0 ≤ K) (xa : Ent) (v u : Value) (n : Nat) (S : Nat → Ent) (k : Nat) (Q : Nat → Int) (W : World) (h : MO W Z mb v u n S k Q) (hn : n ≤ 16) (hA : allN n S = true) (hk : k ≤ 140737488355328)
    (hd : EntOk W xa) (hsm : ∀ i, i < n → ∀ e, S i = some e → e.l < 140737488355328) :
    Calls Tacg.prog 23 #[.int .u8 eng, .pointer (some ⟨mb, 0, none⟩), .agg #[.int .u8 K, vOf xa]] W fun r w' => GoodR Z W mb k Q r w' := by
  by_cases c : 3 < eng ∨ 8 < K
  · exact step_none Z eng K hK0 c mb v u (vOf xa) n S k Q W h hn hA
  · obtain ⟨e, rfl⟩ := Int.eq_ofNat_of_zero_le he0
    have he : e ≤ 3 := by omega
    rcases (show K = 0 ∨ K = 1 ∨ K = 2 ∨ K = 3 ∨ K = 4 ∨ K = 5 ∨ K = 6 ∨ K = 7 ∨ K = 8 by omega) with rfl | rfl | rfl | rfl | rfl | rfl | rfl | rfl | rfl
    · exact step_0 Z mb e he xa v u n S k Q W h hn hA hk hd hsm
    · exact step_1 Z mb e he xa v u n S k Q W h hn hA hk hd hsm
    · exact step_2 Z mb e he xa v u n S k Q W h hn hA hk hd hsm
    · exact step_3 Z mb e he xa v u n S k Q W h hn hA hk hd hsm
    · exact step_4 Z mb e he xa v u n S k Q W h hn hA hk hd hsm
    · exact step_5 Z mb e he xa v u n S k Q W h hn hA hk hd hsm
    · exact step_6 Z mb e he xa v u n S k Q W h hn hA hk hd hsm
    · exact step_7 Z mb e he xa v u n S k Q W h hn hA hk hd hsm
    · exact step_8 Z mb e he xa v u n S k Q W h hn hA hk hd hsm

/-- The blocks from A0 up to A1, and from A3 on. -/
def ZZ (A0 A1 A3 : Nat) : Nat → Prop := fun b => (A0 ≤ b ∧ b < A1) ∨ A3 ≤ b
/-- Blocks B up to A are as they were. -/
def Kp (B : Nat) (w W : World) : Prop := ∀ b, B ≤ b → b < w.heap.size → W.heap[b]? = w.heap[b]?
theorem OwnSt.kp {B : Nat} {w W : World} {sv : Value} {n : Nat} {S : Nat → Ent} {G : Nat → Nat} (h : OwnSt B w sv n S G) (hk : Kp B w W) : OwnSt B W sv n S G := by
  refine ⟨?_, fun j hj e he => ?_, h.2.2⟩
  · rcases h.1 with h0 | ⟨sb, h1, h2, C, h3, h4⟩
    · exact .inl h0
    · exact .inr ⟨sb, h1, h2, C, (hk sb h2 (heap_lt h3)).trans h3, h4⟩
  · obtain ⟨h1, D, d1, d2⟩ := h.2.1 j hj e he
    exact ⟨h1, D, (hk _ h1 (heap_lt d1)).trans d1, d2⟩
theorem OwnOu.kp {B : Nat} {w W : World} {uv : Value} {k : Nat} {Q : Nat → Int} (h : OwnOu B w uv k Q) (hk : Kp B w W) : OwnOu B W uv k Q := by
  rcases h with h0 | ⟨sb, h1, h2, C, h3, h4⟩
  · exact .inl h0
  · exact .inr ⟨sb, h1, h2, C, (hk sb h2 (heap_lt h3)).trans h3, h4⟩
theorem Kp.below {B : Nat} {w W W' : World} (h : Kp B w W) (hs : w.heap.size ≤ W.heap.size) (hb : Below W.heap.size W W') : Kp B w W' := fun b h1 h2 => (hb.block b (by omega)).trans (h b h1 h2)
theorem Kp.kz {B A0 A3 : Nat} {w W W' : World} (h : Kp B w W) (hs : w.heap.size ≤ W.heap.size) (h3 : w.heap.size ≤ A3) (hz : KZ (ZZ A0 B A3) W W') : Kp B w W' := fun b h1 h2 => (hz.block b (by omega) (by rintro (h | h) <;> omega)).trans (h b h1 h2)
/-- What is digits enough. -/
def SOk (n : Nat) (S : Nat → Ent) : Prop := ∀ i, i < n → ∀ e, S i = some e → e.l < 140737488355328 ∧ Dg e.f e.l
theorem own_mo {w3 W : World} {A0 A1 mb n k : Nat} {sv uv : Value} {S : Nat → Ent} {G : Nat → Nat} {Q : Nat → Int} (hs : OwnSt A0 w3 sv n S G) (hu : OwnOu A0 w3 uv k Q) (hS : SOk n S) (h31 : w3.heap.size ≤ A1) (hk : Kp A0 w3 W) (hm : W.heap[mb]? = some (.cells #[sv, uv] 34 (0, 0))) (hm0 : A0 ≤ mb) (hm1 : mb < A1) :
    MO W (ZZ A0 A1 W.heap.size) mb sv uv n (fun i => cp (S i) (G i)) k Q := by
  have hsW := hs.kp hk
  refine ⟨hm, .inl ⟨hm0, hm1⟩, ⟨?_, fun g hg => ?_, fun i hi e he => ?_, fun i j hi hj hne e e' he he' => ?_⟩, ⟨?_, fun g hg => ?_⟩, fun b hb => .inr hb⟩
  · rcases hsW.1 with h0 | ⟨sb, h1, h2, C, h3, h4, h5⟩
    · exact .inl h0
    · exact .inr ⟨sb, n, C, h1, Nat.le_refl _, h3, h4, h5⟩
  · rcases hs.1 with ⟨rfl, _⟩ | ⟨sb, rfl, h2, C, h3, h4⟩
    · cases hg
    · cases hg
      exact .inl ⟨h2, Nat.lt_of_lt_of_le (heap_lt h3) h31⟩
  · cases hSi : S i with
    | none => simp only [hSi, cp, Option.map_none] at he; cases he
    | some e0 =>
      simp only [hSi, cp, Option.map_some] at he
      cases he
      have h1 := hs.2.1 i hi e0 hSi
      have h2 := hS i hi e0 hSi
      exact ⟨.inl ⟨h1.1, Nat.lt_of_lt_of_le h1.2.lt h31⟩, rfl, rfl, Nat.le_of_lt h2.1, h2.2, (hsW.2.1 i hi e0 hSi).2⟩
  · cases hSi : S i with
    | none => simp only [hSi, cp, Option.map_none] at he; cases he
    | some e0 =>
      cases hSj : S j with
      | none => simp only [hSj, cp, Option.map_none] at he'; cases he'
      | some e1 =>
        simp only [hSi, cp, Option.map_some] at he
        simp only [hSj, cp, Option.map_some] at he'
        cases he
        cases he'
        simp only
        rcases Nat.lt_or_gt_of_ne hne with h | h
        · have := hs.2.2 i j h hj e0 e1 hSi hSj; omega
        · have := hs.2.2 j i h hi e1 e0 hSj hSi; omega
  · rcases hu.kp hk with h0 | ⟨sb, h1, h2, C, h3, h4, h5⟩
    · exact .inl h0
    · exact .inr ⟨sb, k, C, h1, Nat.le_refl _, h3, h4, h5⟩
  · rcases hu with ⟨rfl, _⟩ | ⟨sb, rfl, h2, C, h3, h4⟩
    · cases hg
    · cases hg
      exact .inl ⟨h2, Nat.lt_of_lt_of_le (heap_lt h3) h31⟩
theorem own_bm {B : Nat} {W : World} {p q : Option Addr} {n c k kc : Nat} {S : Nat → Ent} {G : Nat → Nat} {Q : Nat → Int} (hs : OwnSt B W (.slice p n c) n S G) (hu : OwnOu B W (.slice q k kc) k Q) (hS : SOk n S) (hn : 0 < n) : ∃ sb, B ≤ sb ∧ BM W p q n c k kc (fun i => cp (S i) (G i)) Q sb := by
  rcases hs.1 with ⟨_, h0⟩ | ⟨sb, h0, h1, C, h2, h3, h4⟩
  · omega
  · cases h0
    have key : ∀ i, i < n → ∀ e, cp (S i) (G i) = some e → e.o = 0 ∧ e.c = e.l ∧ e.l ≤ 140737488355328 ∧ Dg e.f e.l ∧ OwnRow W e.b e.l e.f := by
      intro i hi e he
      cases hSi : S i with
      | none => simp only [hSi, cp, Option.map_none] at he; cases he
      | some e0 =>
        simp only [hSi, cp, Option.map_some] at he
        cases he
        have h2 := hS i hi e0 hSi
        exact ⟨rfl, rfl, Nat.le_of_lt h2.1, h2.2, (hs.2.1 i hi e0 hSi).2⟩
    refine ⟨sb, h1, rfl, Nat.le_refl _, ⟨C, h2, by omega, h4⟩, fun i hi e he => ?_, fun i hi e he => ?_, ownOu_oup hu⟩
    · obtain ⟨a1, a2, a3, a4, a5⟩ := key i hi e he
      exact ⟨by rw [a2]; exact Nat.le_refl _, a3, a4, by rw [a1]; exact a5.cells⟩
    · obtain ⟨_, _, _, _, D, d1, _⟩ := key i hi e he
      exact ⟨D, d1⟩
theorem SOk.ok {n : Nat} {S : Nat → Ent} {W : World} (h : ∀ i, i < n → EntOk W (S i)) (hl : ∀ i, i < n → ∀ e, S i = some e → e.l < 140737488355328) : SOk n S := fun i hi e he => ⟨hl i hi e he, (h i hi e he).2.2.1⟩

set_option maxRecDepth 100000 in
set_option maxHeartbeats 4000000 in
theorem shared_small (eng : Int) (K : Nat) (hK : K < 256) (xa : Ent) (p q : Option Addr) (n c k kc : Nat) (hn : n < 2) (w : World) (ha : EntOk w xa) :
    Calls Tacg.prog 27 #[.int .u8 eng, .agg #[.slice p n c, .slice q k kc], .agg #[.int .u8 K, vOf xa]] w fun r w' => TrueR w.heap.size w r w' := by
  have hb1 : Below w.heap.size w (w.alloc (.cells #[.slice p n c, .slice q k kc] 34)) := (Below.refl _ _).alloc (Nat.le_refl _) _
  have hb2 : Below (w.alloc (.cells #[.slice p n c, .slice q k kc] 34)).heap.size (w.alloc (.cells #[.slice p n c, .slice q k kc] 34)) ((w.alloc (.cells #[.slice p n c, .slice q k kc] 34)).alloc (.cells #[.int .u8 K, vOf xa] 36)) := (Below.refl _ _).alloc (Nat.le_refl _) _
  have hb12 := hb1.trans (hb2.mono hb1.size)
  have hx1 : ((w.alloc (.cells #[.slice p n c, .slice q k kc] 34)).alloc (.cells #[.int .u8 K, vOf xa] 36)).heap[w.heap.size]? = some (.cells #[.slice p n c, .slice q k kc] 34) := by rw [hb2.block _ (by rw [size_al]; omega)]; exact alloc_last _ _
  have HD := hide (draw_any K hK xa _ (ha.below hb12))
  have HB2 := hide hb12
  have HX1 := hide hx1
  obtain ⟨xp, xl, xc, hxv⟩ := vOf_slice xa
  rw [hxv] at HD HB2 HX1 ⊢
  clear ha hb1 hb2 hb12 hx1 hxv
  go_enter Tacg.func27, Tacg.ntmps27
  go_wp2_with fail
  generalize (w.alloc (.cells #[.slice p n c, .slice q k kc] 34)).alloc (.cells #[.int .u8 K, .slice xp xl xc] 36) = w2 at *
  refine HD.out.mono ?_
  rintro e w3 ⟨i, j, d, rfl, hi, hj, hd, hb3⟩
  have HB3 := hide (HB2.out.trans (hb3.mono HB2.out.size))
  have m0 := cell_of ((hb3.block _ (heap_lt HX1.out)).trans HX1.out) (i := 0) rfl
  clear hb3 HD HB2 HX1
  go_wp2_with fail
  refine (share_small p n c i j d hn w3).mono ?_
  rintro e w4 ⟨rfl, hw⟩
  obtain rfl := hw.symm
  clear hw
  go_wp2_with fail
  go_ret
  exact ⟨rfl, HB3.out⟩
end Go.Proofs.Ygctac
