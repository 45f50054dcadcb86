/-
  'append([]uint8(nil), a...)': a copy; digits; copiedRun.
-/
import Derived.Test.YgctacCopy6
import Derived.Laws.AppendOwn
namespace Go.Proofs.Ygctac
open Go.RowKit
set_option linter.unusedVariables false
set_option linter.unusedSimpArgs false

theorem wpList_append_run {P : Program} {w w' : World} {ops : Array Oper} {rest : List Oper} {o : Oper} {a : Act} {Q : Exit → Act → World → Prop} (hgd : o.guard = none) (s x : Operand) (t : TypeId)
    (ho : o.op = .call { callee := .builtin .append, args := #[s, x], argTypes := #[t, t] }) {u v v' : Value} (hs : a.eval s = u) (hx : a.eval x = v)
    (hr : (Builtin.append_ #[t, t] o.type #[u, v]).run P w = .ok v' w')
    (h : wpList P ops Q rest (a.put o.dst v') w') : wpList P ops Q (o :: rest) a w := by
  refine wpList_plain hgd fun K hK => ?_
  unfold Oper.wp execOp
  simp only [ho, resolve, invoke, builtin, Sem.run_bind, Sem.run_pure, Result.andThen_ok, List.map_toArray, List.map_cons, List.map_nil, hs, hx, hr]
  exact hK _ _ h

theorem append_dig (t ty : TypeId) (ht : Tacg.prog.underlying t = some (.slice 5)) {v : Value} {n : Nat} {f : Nat → Int} (hn : n ≤ 140737488355328) (w : World) (h : Dig w v n f) :
    ∃ p m c w', (Builtin.append_ #[t, t] ty #[.slice none 0 0, v]).run Tacg.prog w = .ok (.slice p m c) w' ∧ Dig w' (.slice p m c) n f ∧ Below w.heap.size w w' := by
  obtain ⟨ti, hi, hz0, hz1, hz2⟩ := info_parts info5
  have hz : ∀ (p : Option Addr) (c : Nat), (p = none → c = 0) → (Builtin.append_ #[t, t] ty #[.slice none 0 0, .slice p 0 c]).run Tacg.prog w = .ok (.slice none 0 0) w := by
    intro p c hpc
    cases p with
    | none =>
      obtain rfl := hpc rfl
      simp [Builtin.append_, run_underlying ht, sizeOf, typeInfo, hi, Builtin.lenOf, Builtin.firstCells, loadCells, loadCellsFrom]
    | some a => simp [Builtin.append_, run_underlying ht, sizeOf, typeInfo, hi, Builtin.lenOf, Builtin.firstCells, loadCells, loadCellsFrom]
  rcases h with ⟨⟨p, rfl⟩, rfl⟩ | ⟨b, o, c, rfl, h3, h4⟩
  · exact ⟨none, 0, 0, w, hz p 0 (fun _ => rfl), .inl ⟨⟨none, rfl⟩, rfl⟩, Below.refl _ _⟩
  · rcases Nat.eq_zero_or_pos n with rfl | hp
    · exact ⟨none, 0, 0, w, hz _ c (fun h => by cases h), .inl ⟨⟨none, rfl⟩, rfl⟩, Below.refl _ _⟩
    · have hl : (rowL n f).length = n * ti.size := by rw [rowL_length, hz1, Nat.mul_one]
      have hr := run_append_nil (P := Tacg.prog) w t ty 5 ti _ ht hi hz0 ⟨b, o, none⟩ n c (rowL n f) hl (fun j u hj => ?_) hp (by omega) (by rw [hz2]; omega)
      · refine ⟨_, _, _, _, hr, .inr ⟨w.heap.size, 0, _, rfl, grownCap_ge w n 0 5, fun i hi => ?_⟩, ((Below.refl _ w).drew).alloc (Nat.le_refl _) _⟩
        have hnew : (w.drew.alloc (.cells ((rowL n f).toArray ++ Builtin.zeroCells (Value.int .u8 0).cells (grownCap w n 0 5 - n)) 5)).heap[w.heap.size]? = some (.cells ((rowL n f).toArray ++ Builtin.zeroCells (Value.int .u8 0).cells (grownCap w n 0 5 - n)) 5) := alloc_last w.drew _
        rw [Nat.zero_add, World.cell?]
        simp only [hnew]
        have := rowL_get n f i hi
        show ((rowL n f).toArray ++ Builtin.zeroCells (Value.int .u8 0).cells (grownCap w n 0 5 - n))[i]? = _
        rw [Array.getElem?_append_left (by simpa [rowL_length] using hi)]
        simpa using this
      · have hjn : j < n := by
          have := (List.getElem?_eq_some_iff.1 hj).1
          rwa [rowL_length] at this
        rw [rowL_get n f j hjn] at hj
        cases hj
        rw [add_none]
        exact h4 j hjn

theorem digits_dig {v : Value} {n : Nat} {f : Nat → Int} (w : World) (h : Dig w v n f) :
    Calls Tacg.prog 15 #[v, .int .i64 512] w fun r w' => ∃ x, r = .returned x ∧ Dig w x (min n 512) f ∧ w' = w := by
  rcases h with ⟨⟨p, rfl⟩, rfl⟩ | ⟨b, o, c, rfl, h3, h4⟩
  · cases p with
    | none =>
      refine (digits_nil w).mono ?_
      rintro r w' ⟨rfl, rfl⟩
      exact ⟨_, rfl, .inl ⟨⟨none, rfl⟩, rfl⟩, rfl⟩
    | some ad =>
      refine (digits_e0 ad w).mono ?_
      rintro r w' ⟨rfl, rfl⟩
      exact ⟨_, rfl, .inl ⟨⟨some ad, rfl⟩, rfl⟩, rfl⟩
  · refine (digits_some b o n c h3 w).mono ?_
    rintro r w' ⟨rfl, rfl⟩
    refine ⟨_, rfl, .inr ⟨b, o, _, rfl, ?_, fun i hi => h4 i (by omega)⟩, rfl⟩
    split <;> omega

/-- What every round keeps: the script, its digits, the argument. -/
structure RunKeep (w0 w : World) (s : Nat) (u v : Value) (n : Nat) (f : Nat → Int) : Prop where
  c0 : w.cell? ⟨s, 0, none⟩ = some (.int .u8 0)
  c1 : w.cell? ⟨s, 1, none⟩ = some u
  du : Dig w u n f
  dv : Dig w v n f
  lt : s < w.heap.size
  bel : Below w0.heap.size w0 w
theorem RunKeep.below {w0 w w' : World} {s : Nat} {u v : Value} {n : Nat} {f : Nat → Int} (h : RunKeep w0 w s u v n f) (hb : Below w.heap.size w w') : RunKeep w0 w' s u v n f :=
  ⟨(hb.cell h.lt).trans h.c0, (hb.cell h.lt).trans h.c1, h.du.below hb, h.dv.below hb, Nat.lt_of_lt_of_le h.lt hb.size, belowTr h.bel hb⟩

set_option maxRecDepth 100000 in
set_option maxHeartbeats 2000000 in
theorem copiedRun_any {v : Value} {n : Nat} {f : Nat → Int} (hn : n ≤ 140737488355328) (i : Int) (hi0 : 0 ≤ i) (hi1 : i < 65536) (w : World) (h : Dig w v n f) :
    Calls Tacg.prog 44 #[v, .int .u16 i] w fun r w' => r = .returned (.bool true) ∧ Below w.heap.size w w' := by
  obtain ⟨p, m, c, w1, hr, hD, hB⟩ := append_dig 22 22 Tacg.underlying22 hn w h
  have HR := hide hr
  have hA : Below w1.heap.size w1 (w1.alloc (.cells #[.int .u8 0, .slice p m c] 36)) := (Below.refl _ _).alloc (Nat.le_refl _) _
  have HK : Hid (RunKeep w (w1.alloc (.cells #[.int .u8 0, .slice p m c] 36)) w1.heap.size (.slice p m c) v n f) :=
    hide ⟨by rw [World.cell?, alloc_last]; rfl, by rw [World.cell?, alloc_last]; rfl, hD.below hA, (h.below hB).below hA, by rw [size_al]; omega, belowTr hB hA⟩
  clear hr hD hB hA h
  go_enter Tacg.func44, Tacg.ntmps44
  go_wp2_with (refine wpList_append_run rfl _ _ 22 rfl rfl rfl HR.out ?_)
  clear HR
  generalize w1.alloc (.cells #[.int .u8 0, .slice p m c] 36) = w2 at *
  generalize w1.heap.size = s at *
  go_loopw [7, 8, 9] (fun s7 s8 s9 w3 => ∃ (e : Int) (W : World), s7 = .int .u8 e ∧ 0 ≤ e ∧ e ≤ 4 ∧ w3 = W ∧ Hid (RunKeep w W s (.slice p m c) v n f)) (fun s7 _ _ _ => (4 - intOf s7).toNat)
  case atStart => exact ⟨0, w2, rfl, by omega, by omega, rfl, HK⟩
  case round =>
    obtain ⟨e, W, rfl, e0, e4, hw, HK⟩ := hrel
    obtain rfl := hw.symm
    clear hw
    by_cases hc : e < 4
    · go_wp2_with fail
      refine (runX e e0 (by omega) s hn W HK.out.c0 HK.out.c1 HK.out.du).mono ?_
      rintro r w3 ⟨k, y, q, rfl, hk, hy, hkl, hql, hB3⟩
      have hA := (Below.refl w3.heap.size w3).alloc (Nat.le_refl _) (.cells #[.bool false, .slice (some ⟨k, 0, none⟩) 1 1, .slice none 0 0] 140)
      have c1 : (w3.alloc (.cells #[.bool false, .slice (some ⟨k, 0, none⟩) 1 1, .slice none 0 0] 140)).cell? ⟨w3.heap.size, 1, none⟩ = some (.slice (some ⟨k, 0, none⟩) 1 1) := (OutAt.new w3 _ _ _).c1
      have ck := cell_alloc' (.cells #[.bool false, .slice (some ⟨k, 0, none⟩) 1 1, .slice none 0 0] 140) hk
      have HY := hide (hy.below hA (Nat.le_refl _))
      have HB4 := hide (belowTr hB3 hA)
      clear hA hk hy hB3
      go_wp2_with fail
      generalize w3.alloc (.cells #[.bool false, .slice (some ⟨k, 0, none⟩) 1 1, .slice none 0 0] 140) = w4 at *
      refine (scribble_any i hi0 hi1 w4 HY.out).mono ?_
      rintro r w5 ⟨rfl, hB5⟩
      have HK5 := hide (HK.out.below (HB4.out.trans (hB5.mono (Nat.le_of_lt hql))))
      clear HB4 HY hB5 c1 ck HK
      go_wp2_with fail
      refine (digits_dig w5 HK5.out.dv).mono ?_
      rintro r w6 ⟨x, rfl, hx, hw⟩
      obtain rfl := hw.symm
      clear hw
      have HX := hide hx
      clear hx
      go_wp2_with fail
      refine (take_dig (by omega) w5 HX.out).mono ?_
      rintro r w6 ⟨z, rfl, hz, hB6⟩
      have ez : min (min n 512) 1024 = min n 512 := by omega
      rw [ez] at hz
      obtain ⟨zp, zn, zc, rfl⟩ := hz.slice
      have HK6 := hide (HK5.out.below hB6)
      have HZ := hide hz
      clear HK5 HX hz hB6
      go_wp2_with fail
      refine (sameDigits_any hn w6 HK6.out.du HK6.out.dv).mono ?_
      rintro r w7 ⟨rfl, d7, hw7⟩
      have hB7 : Below w6.heap.size w6 w7 := by rw [hw7]; exact below_dN (Below.refl _ _) _
      have HK7 := hide (HK6.out.below hB7)
      have HZ7 := hide (HZ.out.below hB7 (Nat.le_refl _))
      clear hw7 hB7 HK6 HZ
      go_wp2_with fail
      refine (runX e e0 (by omega) s hn w7 HK7.out.c0 HK7.out.c1 HK7.out.du).mono ?_
      rintro r w8 ⟨k2, y2, q2, rfl, hk2, hy2, hkl2, hql2, hB8⟩
      have HK8 := hide (HK7.out.below hB8)
      have HZ8 := hide (HZ7.out.below hB8 (Nat.le_refl _))
      have HY8 := hide hy2
      have HC8 := hide hk2
      clear hB8 hy2 hk2 HK7 HZ7
      have hA8 := (Below.refl w8.heap.size w8).alloc (Nat.le_refl _) (.cells #[.slice zp zn zc] 23)
      have HZ9 := hide (HZ8.out.below hA8 (Nat.le_refl _))
      have HY9 := hide (HY8.out.below hA8 (Nat.le_refl _))
      have HC9 := hide (cell_alloc' (.cells #[.slice zp zn zc] 23) HC8.out)
      have HW9 := hide (show (w8.alloc (.cells #[.slice zp zn zc] 23)).cell? ⟨w8.heap.size, 0, none⟩ = some (.slice zp zn zc) by rw [World.cell?, alloc_last]; rfl)
      have HK9 := hide (HK8.out.below hA8)
      clear hA8 HZ8 HY8 HC8 HK8
      go_wp2_with fail
      refine (isOutcome_any _ HC9.out HW9.out HY9.out HZ9.out).mono ?_
      rintro r w9 ⟨rfl, hB9⟩
      have HK10 := hide (HK9.out.below hB9)
      clear hB9 HK9 HZ9 HY9 HC9 HW9
      go_wp2_with fail
      go_roundw
      case rel => exact ⟨e + 1, _, by go_num, by omega, by omega, rfl, HK10⟩
      case measure => simp [intOf] <;> omega
    · obtain rfl : e = 4 := by omega
      go_wp2
      go_ret
      exact ⟨rfl, HK.out.bel⟩
end Go.Proofs.Ygctac
