/-
  law.alone: the walk.
-/
import Derived.Test.YgctacKm19
namespace Go.Proofs.Ygctac
open Go.RowKit
set_option linter.unusedVariables false
set_option linter.unusedSimpArgs false

/-- An argument of one's own, outside Z. -/
def ArgO (W : World) (Z : Nat → Prop) (xa : Ent) : Prop := ∀ e, xa = some e → ¬ Z e.b ∧ e.o = 0 ∧ e.c = e.l ∧ e.l ≤ 140737488355328 ∧ Dg e.f e.l ∧ OwnRow W e.b e.l e.f
theorem ArgO.ok {W : World} {Z : Nat → Prop} {xa : Ent} (h : ArgO W Z xa) : EntOk W xa := fun e he => by
  obtain ⟨a1, a2, a3, a4, a5, a6⟩ := h e he
  exact ⟨by rw [a3]; exact Nat.le_refl _, a4, a5, by rw [a2]; exact a6.cells⟩
theorem ArgO.after {W W' : World} {Z : Nat → Prop} {xa : Ent} (h : ArgO W Z xa) (hb : Below W.heap.size W W') : ArgO W' Z xa := fun e he => by
  obtain ⟨a1, a2, a3, a4, a5, a6⟩ := h e he
  exact ⟨a1, a2, a3, a4, a5, a6.below hb a6.lt⟩
theorem ArgO.kz {W W' : World} {Z : Nat → Prop} {xa : Ent} (h : ArgO W Z xa) (hb : KZ Z W W') : ArgO W' Z xa := fun e he => by
  obtain ⟨a1, a2, a3, a4, a5, C, c1, c2⟩ := h e he
  exact ⟨a1, a2, a3, a4, a5, C, (hb.block _ (heap_lt c1) a1).trans c1, c2⟩
theorem al_start {W w1 w2 : World} {Z : Nat → Prop} {mb g n c k : Nat} {u : Value} {S : Nat → Ent} {Q : Nat → Int} {xa : Ent} {sb : Nat} {uv : Value} {G : Nat → Nat} (hm : MO W Z mb (.slice (some ⟨g, 0, none⟩) n c) u n S k Q) (hn : 0 < n) (ha : ArgO W Z xa) (hb1 : Below W.heap.size W w1) (hs : OwnSt W.heap.size w1 (.slice (some ⟨sb, 0, none⟩) n n) n S G)
    (hb2 : Below w1.heap.size w1 w2) (hc : CpOk w2 xa w1.heap.size) : AL (w2.alloc (.cells #[.slice (some ⟨sb, 0, none⟩) n n, uv] 34)) Z mb w2.heap.size g sb n c u uv S G xa w1.heap.size none := by
  have hb3 : Below w2.heap.size w2 (w2.alloc (.cells #[.slice (some ⟨sb, 0, none⟩) n n, uv] 34)) := (Below.refl _ _).alloc (Nat.le_refl _) _
  have hb23 := hb2.trans (hb3.mono hb2.size)
  have hbA := hb1.trans (hb23.mono hb1.size)
  have hM3 := hm.after hbA
  have hS3 := hs.after hb23
  have hA3 := ha.after hbA
  obtain ⟨C, c1, _, c3⟩ := mo_cells hM3
  refine ⟨⟨_, hM3.cell, rfl⟩, ⟨C, c1, c3⟩, ⟨_, alloc_last _ _, rfl⟩, ?_, fun i hi e he => ?_, hm.st.dis, fun i hi e he => ?_, fun e he => ?_⟩
  · rcases hS3.1 with ⟨h0, _⟩ | ⟨sb', h1, _, C', d1, _, d3⟩
    · cases h0
    · cases h1; exact ⟨C', d1, d3⟩
  · exact hM3.st.ent i hi e he
  · obtain ⟨h1, h2⟩ := hS3.2.1 i hi e he
    refine ⟨h2, fun j hj e' he' => ?_⟩
    have := (hm.st.ent j hj e' he').2.2.2.2.2.lt
    omega
  · obtain ⟨a1, a2, a3, a4, a5, a6⟩ := hA3 e he
    refine ⟨a6, (hc e he).below hb3 (hc e he).lt, a2, a3, a4, a5, fun j hj e' he' => ⟨fun hh => a1 (by rw [hh]; exact (hm.st.ent j hj e' he').1), ?_⟩⟩
    have h1 := (hm.st.ent j hj e' he').2.2.2.2.2.lt
    have h2 := hb1.size
    omega

theorem ownSt_slice {B : Nat} {W : World} {sv : Value} {n : Nat} {S : Nat → Ent} {G : Nat → Nat} (h : OwnSt B W sv n S G) : ∃ p c, sv = .slice p n c := by
  rcases h.1 with ⟨h0, rfl⟩ | ⟨sb, h1, _⟩
  · exact ⟨none, 0, h0⟩
  · exact ⟨_, _, h1⟩
theorem ownOu_slice {B : Nat} {W : World} {uv : Value} {k : Nat} {Q : Nat → Int} (h : OwnOu B W uv k Q) : ∃ p c, uv = .slice p k c := by
  rcases h with ⟨h0, rfl⟩ | ⟨sb, h1, _⟩
  · exact ⟨none, 0, h0⟩
  · exact ⟨_, _, h1⟩

set_option maxRecDepth 100000 in
set_option maxHeartbeats 4000000 in
theorem alone_any (Z : Nat → Prop) (mb : Nat) (xa : Ent) (v u : Value) (n : Nat) (S : Nat → Ent) (k : Nat) (Q : Nat → Int) (W : World) (h : MO W Z mb v u n S k Q) (hn : n ≤ 16) (hk : k ≤ 140737488355329) (hk' : k ≤ 140737488355328) (ha : ArgO W Z xa) :
    Calls Tacg.prog 26 #[.pointer (some ⟨mb, 0, none⟩), vOf xa] W fun r w' => AloneR Z W r w' := by
  obtain ⟨p, c, rfl⟩ := h.st.row.slice
  obtain ⟨q, kc, rfl⟩ := h.ou.row.slice
  have HOWN := hide (own_any p n c q k kc S Q (by omega) hk' W h.st.stp h.ou.oup)
  rw [show min n 17 = n by omega] at HOWN
  have HM := hide h
  have HA := hide ha
  have m0 := cell_of h.cell (i := 0) rfl
  have m1 := cell_of h.cell (i := 1) rfl
  obtain ⟨xp, xl, xc, hxv⟩ := vOf_slice xa
  have HXV := hide hxv
  rw [hxv]
  clear h ha hxv
  go_enter Tacg.func26, Tacg.ntmps26
  go_wp2_with fail
  refine HOWN.out.mono ?_
  rintro e w1 ⟨sv, uv, G, rfl, hS1, hU1, hB1⟩
  obtain ⟨svp, svc, rfl⟩ := ownSt_slice hS1
  obtain ⟨uvp, uvc, rfl⟩ := ownOu_slice hU1
  have hN := ownNat_any xa w1 (HA.out.ok.below hB1)
  have HN := hide hN
  rw [HXV.out] at HN
  have HB1 := hide hB1
  have HS1 := hide hS1
  clear hN hB1 hS1 hU1 HOWN m0 m1
  go_wp2_with fail
  refine HN.out.mono ?_
  rintro e w2 ⟨rfl, hC2, hB2⟩
  have HC2 := hide hC2
  have HB2 := hide hB2
  clear hC2 hB2 HN
  obtain ⟨yp, yl, yc, hyv⟩ := vOf_slice (cp xa w1.heap.size)
  have HYV := hide hyv
  rw [hyv]
  clear hyv
  go_wp2_with fail
  rcases Nat.eq_zero_or_pos n with hn0 | hn0
  · subst hn0
    have hb3 : Below w2.heap.size w2 (w2.alloc (.cells #[.slice svp 0 svc, .slice uvp k uvc] 34)) := (Below.refl _ _).alloc (Nat.le_refl _) _
    have hbA := HB1.out.trans ((HB2.out.trans (hb3.mono HB2.out.size)).mono HB1.out.size)
    have m0 := cell_of (HM.out.after hbA).cell (i := 0) rfl
    have HBA := hide hbA
    clear hb3 hbA
    generalize w2.alloc (.cells #[.slice svp 0 svc, .slice uvp k uvc] 34) = w3 at *
    go_loopw [7, 8] (fun s7 s8 W1 => s7 = .int .i64 0 ∧ W1 = w3) (fun _ _ _ => 0)
    case atStart => exact ⟨rfl, rfl⟩
    case round =>
      obtain ⟨rfl, hw⟩ := hrel
      obtain rfl := hw.symm
      clear hw
      go_wp2_with fail
      go_ret
      exact ⟨rfl, KZ.of HBA.out⟩
  · obtain ⟨g, c', hgv, hnc⟩ := mo_row HM.out hn0
    cases hgv
    obtain ⟨sb, hsb⟩ : ∃ sb, Value.slice svp n svc = .slice (some ⟨sb, 0, none⟩) n n := by
      rcases HS1.out.1 with ⟨_, h0⟩ | ⟨sb, h1, _⟩
      · omega
      · exact ⟨sb, h1⟩
    cases hsb
    have hb3 : Below w2.heap.size w2 (w2.alloc (.cells #[.slice (some ⟨sb, 0, none⟩) n n, .slice uvp k uvc] 34)) := (Below.refl _ _).alloc (Nat.le_refl _) _
    have HK3 := hide (KZ.of (Z := Z) (HB1.out.trans ((HB2.out.trans (hb3.mono HB2.out.size)).mono HB1.out.size)))
    have HL3 := hide (al_start (uv := .slice uvp k uvc) HM.out hn0 HA.out HB1.out HS1.out HB2.out HC2.out)
    clear hb3 HS1 HB1 HB2 HC2 HM HA
    generalize w2.alloc (.cells #[.slice (some ⟨sb, 0, none⟩) n n, .slice uvp k uvc] 34) = w3 at *
    generalize w2.heap.size = kb at *
    generalize w1.heap.size = ga at *
    go_loopw [7, 8] (fun s7 s8 W1 => ∃ (i : Nat) (V : World), s7 = .int .i64 i ∧ i ≤ n ∧ W1 = V ∧ Hid (AL V Z mb kb g sb n c (.slice q k kc) (.slice uvp k uvc) S G xa ga none) ∧ Hid (KZ Z W V)) (fun s7 _ _ => n - (intOf s7).toNat)
    case atStart => exact ⟨0, _, rfl, Nat.zero_le _, rfl, HL3, HK3⟩
    case round =>
      obtain ⟨i, V, rfl, hi, hw, hL, hK⟩ := hrel
      obtain rfl := hw.symm
      clear hw HL3 HK3
      obtain ⟨C1, a1, a2⟩ := hL.out.mac
      have m0 := cell_of a1 a2
      clear a1 a2
      by_cases ci : i < n
      · have ci' : (i : Int) < (n : Int) := by omega
        obtain ⟨C2, b1, b2⟩ := hL.out.row
        have s0 := cell_of b1 (b2 i ci)
        clear b1 b2
        -- the turn
        have hturn : ∃ H, (∀ j, j ≠ i → H ≠ some j) ∧ (∀ V, AL V Z mb kb g sb n c (.slice q k kc) (.slice uvp k uvc) S G xa ga none → Calls Tacg.prog 88 #[vOf (S i)] V fun r w' => r = .returned (.tuple #[]) ∧ AL w' Z mb kb g sb n c (.slice q k kc) (.slice uvp k uvc) S G xa ga H ∧ ∀ W0, KZ Z W0 V → KZ Z W0 w') ∧ (∀ V, AL V Z mb kb g sb n c (.slice q k kc) (.slice uvp k uvc) S G xa ga H → Calls Tacg.prog 88 #[vOf (S i)] V fun r w' => r = .returned (.tuple #[]) ∧ AL w' Z mb kb g sb n c (.slice q k kc) (.slice uvp k uvc) S G xa ga none ∧ ∀ W0, KZ Z W0 V → KZ Z W0 w') := by
          cases hS : S i with
          | none =>
            refine ⟨none, (fun j _ h => by cases h), fun V hV => ?_, fun V hV => ?_⟩
            · exact (flip_nil V).mono (by rintro r w' ⟨rfl, rfl⟩; exact ⟨rfl, hV, fun W0 h => h⟩)
            · exact (flip_nil V).mono (by rintro r w' ⟨rfl, rfl⟩; exact ⟨rfl, hV, fun W0 h => h⟩)
          | some e =>
            refine ⟨some i, (fun j hj h => hj (by cases h; rfl)), fun V hV => ?_, fun V hV => ?_⟩
            · obtain ⟨a1, a2, a3, a4, a5, a6⟩ := hV.ent i ci e hS
              rw [if_neg (by simp)] at a6
              show Calls Tacg.prog 88 #[.slice (some ⟨e.b, e.o, none⟩) e.l e.c] V _
              rw [a2]
              refine (flip_row e.b e.l e.c e.f a4 a5 V a6).mono ?_
              rintro r w' ⟨rfl, hr, ho⟩
              exact ⟨rfl, hV.turn ci hS ho (by rw [if_pos rfl]; exact hr) (fun j hj => by simp; exact fun h => hj h.symm), fun W0 h => h.oth ho a1⟩
            · obtain ⟨a1, a2, a3, a4, a5, a6⟩ := hV.ent i ci e hS
              rw [if_pos rfl] at a6
              show Calls Tacg.prog 88 #[.slice (some ⟨e.b, e.o, none⟩) e.l e.c] V _
              rw [a2]
              refine (flip_row e.b e.l e.c (fl e.f) a4 a5.fl V a6).mono ?_
              rintro r w' ⟨rfl, hr, ho⟩
              rw [fl_fl] at hr
              exact ⟨rfl, hV.turn ci hS ho (by rw [if_neg (by simp)]; exact hr) (fun j hj => by simp; exact fun h => hj h.symm), fun W0 h => h.oth ho a1⟩
        obtain ⟨H, hHne, ht1, ht2⟩ := hturn
        have HT1 := hide (ht1 V hL.out)
        have HT2 := hide ht2
        have HHN := hide hHne
        clear ht1 ht2 hHne
        obtain ⟨zp, zl, zc, hzv⟩ := vOf_slice (S i)
        have HZV := hide hzv
        rw [hzv] at s0 HT1
        clear hzv
        go_wp2_with fail
        refine HT1.out.mono ?_
        rintro e V2 ⟨rfl, hL2, hK2⟩
        have HL2 := hide hL2
        have HK2 := hide (hK2 W hK.out)
        clear hL2 hK2 hL hK HT1 m0 s0
        go_wp2_with fail
        go_loopw [8] (fun s8 W1 => ∃ (j : Nat) (V3 : World), s8 = .int .i64 j ∧ j ≤ n ∧ W1 = V3 ∧ Hid (AL V3 Z mb kb g sb n c (.slice q k kc) (.slice uvp k uvc) S G xa ga H) ∧ Hid (KZ Z W V3)) (fun s8 _ => n - (intOf s8).toNat)
        case atStart => exact ⟨0, _, rfl, Nat.zero_le _, rfl, HL2, HK2⟩
        case round =>
          obtain ⟨j, V3, rfl, hj, hw, hL, hK⟩ := hrel
          obtain rfl := hw.symm
          clear hw HL2 HK2
          obtain ⟨C1, a1, a2⟩ := hL.out.mac
          have m0 := cell_of a1 a2
          clear a1 a2
          by_cases cj : j < n
          · have cj' : (j : Int) < (n : Int) := by omega
            by_cases cij : j = i
            · have cB : ((j : Int) != (i : Int)) = false := by rw [cij]; simp
              have HCI := hide cij
              clear cij
              go_wp2_with fail
              go_quiet (fail)
              go_wp2_with fail
              go_roundw
              case rel => exact ⟨j + 1, _, by go_num, by omega, rfl, hide (hL.out.drewN (d := nq)), hide (hK.out.dN nq)⟩
              case measure => simp [intOf] <;> omega
            · have cB : ((j : Int) != (i : Int)) = true := by simp; omega
              obtain ⟨C2, b1, b2⟩ := hL.out.row
              have s1 := cell_of b1 (b2 j cj)
              obtain ⟨C3, d1, d2⟩ := hL.out.kac
              have m3 := cell_of d1 d2
              obtain ⟨C4, e1, e2⟩ := hL.out.kow
              have s3 := cell_of e1 (e2 j cj)
              have HSM := hide (fun d => hL.out.same cj (HHN.out j cij) d)
              obtain ⟨x, hx⟩ : ∃ x, x = vOf (S j) := ⟨_, rfl⟩
              obtain ⟨y, hy⟩ : ∃ y, y = vOf (cp (S j) (G j)) := ⟨_, rfl⟩
              rw [← hx] at s1 HSM
              rw [← hy] at s3 HSM
              clear b1 b2 d1 d2 e1 e2 hx hy
              go_wp2_with fail
              go_quiet (first | (go_at_call 42; exact Calls.quiet_of (HSM.out _)))
              go_wp2_with fail
              go_roundw
              case rel => exact ⟨j + 1, _, by go_num, by omega, rfl, hide (hL.out.drewN (d := nq)), hide (hK.out.dN nq)⟩
              case measure => simp [intOf] <;> omega
          · obtain rfl : n = j := by omega
            have HAR := hide hL.out.args
            rw [HXV.out, HYV.out] at HAR
            go_wp2_with fail
            refine HAR.out.mono ?_
            rintro e V4 ⟨rfl, d4, hw4⟩
            have HL4 : Hid (AL V4 Z mb kb g sb n c (.slice q k kc) (.slice uvp k uvc) S G xa ga H) := by rw [hw4]; exact hide hL.out.drewN
            have HK4 : Hid (KZ Z W V4) := by rw [hw4]; exact hide (hK.out.dN d4)
            clear hw4 hL hK HAR m0
            obtain ⟨C1, a1, a2⟩ := HL4.out.mac
            have m0 := cell_of a1 a2
            obtain ⟨C2, b1, b2⟩ := HL4.out.row
            have s0 := cell_of b1 (b2 i ci)
            have HT4 := hide (HT2.out V4 HL4.out)
            rw [HZV.out] at s0 HT4
            clear a1 a2 b1 b2
            go_wp2_with fail
            refine HT4.out.mono ?_
            rintro e V5 ⟨rfl, hL5, hK5⟩
            have HL5 := hide hL5
            have HK5 := hide (hK5 W HK4.out)
            clear hL5 hK5 HT4 HL4 HK4 m0 s0
            go_wp2_with fail
            go_roundw
            case rel => exact ⟨i + 1, _, by go_num, by omega, rfl, HL5, HK5⟩
            case measure => simp [intOf] <;> omega
      · obtain rfl : n = i := by omega
        go_wp2_with fail
        go_ret
        exact ⟨rfl, hK.out⟩
end Go.Proofs.Ygctac
