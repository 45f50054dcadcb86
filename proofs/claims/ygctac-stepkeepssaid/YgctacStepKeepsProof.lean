/-
  THE PROOF OF 'Rows.StepKeepsSaid' ('fftlab/law.StepKeeps'). The walk lies in YgctacKm25.lean; here the input is opened, its size by the form's reach.
-/
import Derived.Test.YgctacRows
import Derived.Test.YgctacKm25
import Derived.SizedLaws
import Derived.WalkKit
import Derived.ProofKit
import Derived.OpenShut
import Derived.ShutString
import Derived.ChangeOld
import Derived.Below
import Derived.Deep.Matrix
import Derived.Lib.SmallJoins
namespace Go.Proofs.Ygctac.stepKeeps
open Go.ChangeShapes Go.WideShapes Go.ChangeAt Go.RowKit
open Go.ChangeMaps (open_string shut_string)
set_option linter.unusedVariables false

theorem own : ownKnob Tacg.prog.godebug = none := by kernel_rfl
theorem laidOut : laidOutB Tacg.prog = true := by kernel_rfl

set_option maxRecDepth 100000 in
/-- A slice that came in does not lead into the midst of a cell. -/
theorem spot_of {W : World} {r : Reach} {base : Nat} {t e : TypeId} {a : Addr} {l c : Nat} (hu : Tacg.prog.underlying t = some (.slice e)) (h : Cell.okWide Tacg.prog W r base t (.slice (some a) l c)) : a.spot = none := by
  simp only [Cell.okWide, hu, Cell.ok] at h
  exact h.2.2.2.1
set_option maxRecDepth 100000 in
theorem spot_field {W : World} {r : Reach} {base : Nat} {t u e : TypeId} {fs : Array Field} {ts : List TypeId} {cs : Array Value} {i : Nat} {a : Addr} {l c : Nat} (ht : Tacg.prog.underlying t = some (.struct fs)) (hts : Tacg.prog.cellTypes Tacg.prog.depth t = some ts) (hi : i < ts.length) (hiu : ts[i]? = some u) (hu : Tacg.prog.underlying u = some (.slice e))
    (h : Value.okWide Tacg.prog W r base t (.agg cs)) (hc : cs[i]? = some (.slice (some a) l c)) : a.spot = none := by
  simp only [Value.okWide, ht] at h
  obtain ⟨cs', h1, h2, ts', h3, h4, h5⟩ := h
  cases h1
  rw [hts] at h3
  cases h3
  obtain ⟨u', h6, h7⟩ := h5 i _ hc
  rw [Nat.mod_eq_of_lt hi, hiu] at h6
  cases h6
  exact spot_of hu h7
theorem spot_cell {W : World} {x : Addr} {v : Value} (h : W.cell? x = some v) : x.spot = none := by
  rw [World.cell?] at h
  cases hb : x.spot with
  | none => rfl
  | some q =>
    rw [hb] at h
    split at h
    · simp at h
    · cases h
theorem addr_eq {x : Addr} (h : x.spot = none) : x = ⟨x.block, x.off, none⟩ := by
  cases x
  simp only at h
  subst h
  rfl
theorem add_eq {x : Addr} (h : x.spot = none) (i : Nat) : x.add i = ⟨x.block, x.off + i, none⟩ := by
  rw [addr_eq h]
  exact add_none _ _ _
theorem weights_all {H : Type} {P : Program} {e : TypeId} : ∀ {l : List (DataW H)} {d : DataW H}, d ∈ l → ∀ n ∈ d.weights P e, n ∈ DataW.weightsAll P e l
  | d0 :: l, d, hd, n, hn => by
    simp only [DataW.weightsAll, List.mem_append]
    rcases List.mem_cons.1 hd with rfl | h
    · exact .inl hn
    · exact .inr (weights_all h n hn)

/-- Digits that came in. -/
theorem digits_in {W : World} {a : Option Addr} {l c : Nat} {zs : List Int} (hlc : l ≤ c) (hz : zs.length = c) (hc : c < 140737488355328) (hw : ∀ n ∈ zs, (Lit.int .u8 n).wf = true) (h0 : a = none → c = 0) (hcell : ∀ x, a = some x → ∀ i, i < c → W.cell? (x.add i) = some (.int .u8 (zs.getD i 0))) (hs : ∀ x, a = some x → x.spot = none) :
    ∃ x : Ent, .slice a l c = vOf x ∧ EntOk W x ∧ ∀ e, x = some e → e.l < 140737488355328 := by
  cases a with
  | none =>
    obtain rfl := h0 rfl
    obtain rfl : l = 0 := by omega
    exact ⟨none, rfl, fun e he => by (cases he), fun e he => by (cases he)⟩
  | some x =>
    have hx := hs x rfl
    refine ⟨some ⟨x.block, x.off, l, c, fun i => zs.getD i 0⟩, ?_, fun e he => ?_, fun e he => ?_⟩
    · rw [addr_eq hx]; rfl
    · cases he
      refine ⟨hlc, by simp only; omega, fun i hi => ?_, fun i hi => ?_⟩
      · simp only at hi ⊢
        have hm : zs.getD i 0 ∈ zs := by
          have hl : i < zs.length := by omega
          simp [List.getD, hl]
        have := hw _ hm
        simp only [Lit.wf, Bool.and_eq_true, decide_eq_true_eq] at this
        have e1 : IntKind.u8.min = 0 := rfl
        have e2 : IntKind.u8.max = 255 := rfl
        omega
      · simp only at hi ⊢
        have := hcell x rfl i (by omega)
        rwa [add_eq hx] at this
    · cases he
      simp only
      omega
theorem entry_in {W : World} {a : Option Addr} {l c : Nat} {zs : List Int} (hlc : l ≤ c) (hz : zs.length = c) (hc : c < 140737488355328) (hw : ∀ n ∈ zs, (Lit.int .u8 n).wf = true) (h0 : a = none → c = 0) (hcell : ∀ x, a = some x → ∀ i, i < c → W.cell? (x.add i) = some (.int .u8 (zs.getD i 0))) :
    ∃ x : Ent, EntV W (.slice a l c) x ∧ ∀ e, x = some e → e.l < 140737488355328 := by
  rcases Nat.eq_zero_or_pos c with hc0 | hc0
  · subst hc0
    obtain rfl : l = 0 := by omega
    cases a with
    | none => exact ⟨none, .inl ⟨rfl, fun e he => by (cases he)⟩, fun e he => by (cases he)⟩
    | some x => exact ⟨some ⟨0, 0, 0, 0, fun _ => 0⟩, .inr ⟨x, _, rfl, rfl, rfl⟩, fun e he => by cases he; simp⟩
  · obtain ⟨x, h1, h2, h3⟩ := digits_in hlc hz hc hw h0 hcell (fun x hx => spot_cell (hcell x hx 0 hc0))
    exact ⟨x, .inl ⟨h1, h2⟩, h3⟩
theorem out_in {W : World} {a : Option Addr} {l c : Nat} {zs : List Int} (hlc : l ≤ c) (hz : zs.length = c) (h0 : a = none → c = 0) (hcell : ∀ x, a = some x → ∀ i, i < c → W.cell? (x.add i) = some (.int .i8 (zs.getD i 0))) (hs : ∀ x, a = some x → x.spot = none) : OuP W a l c (fun i => zs.getD i 0) := by
  cases a with
  | none =>
    obtain rfl := h0 rfl
    exact .inl ⟨rfl, by omega, rfl⟩
  | some x =>
    have hx := hs x rfl
    refine .inr ⟨x.block, x.off, by rw [← addr_eq hx], hlc, fun i hi => ?_⟩
    have := hcell x rfl i (by omega)
    rwa [add_eq hx] at this
/-- A slice of integers that came in. -/
theorem ints_in {H : Type} {enc : TypeId × Value → H} {W : World} {base : Nat} {held : Bool} {t e : TypeId} {k : IntKind} {fuel : Nat} {v : Value} {x : DataW H × List MemPlace} (ht : Tacg.prog.underlying t = some (.slice e)) (he : Tacg.prog.underlying e = some (.int k)) (hc : Tacg.prog.cellsOf e = 1) (hb : Tacg.prog.bytesOf e = 1)
    (h : DataW.trod enc Tacg.prog W base (fun _ => true) held fuel t [v] = some x) (hsz : ∀ n ∈ x.1.weights Tacg.prog t, n ≤ reachBytes) :
    ∃ a l c zs, v = .slice a l c ∧ l ≤ c ∧ List.length zs = c ∧ c < 140737488355328 ∧ (∀ n ∈ zs, (Lit.int k n).wf = true) ∧ (a = none → c = 0) ∧ ∀ y, a = some y → ∀ i, i < c → W.cell? (y.add i) = some (.int k (zs.getD i 0)) := by
  rcases open_ints ht he hc h with ⟨hcs, _⟩ | ⟨a, l, c, zs, hcs, _, hl, hm, hz, hx, hcell, hwz⟩
  · cases hcs
    exact ⟨none, 0, 0, [], rfl, Nat.le_refl _, rfl, by decide, (fun n hn => by cases hn), fun _ => rfl, (fun y hy => by cases hy)⟩
  · cases hcs
    simp only [if_true] at hz
    have hr := reachBytes_lt
    have hw := hsz (zs.length * 1) (by rw [hx]; simp [DataW.weights, ht, hb, lits]; omega)
    refine ⟨some a, l, c, zs, rfl, hl, hz, by omega, hwz, (fun h => by cases h), fun y hy i hi => ?_⟩
    cases hy
    exact hcell i (by omega)
/-- A stack that came in. -/
theorem rows_in {H : Type} {enc : TypeId × Value → H} {W : World} {base : Nat} {held : Bool} {fuel : Nat} {v : Value} {x : DataW H × List MemPlace}
    (h : DataW.trod enc Tacg.prog W base (fun _ => true) held fuel 31 [v] = some x) (hsz : ∀ n ∈ x.1.weights Tacg.prog 31, n ≤ reachBytes) (hs : ∀ a l c, v = .slice (some a) l c → a.spot = none) :
    ∃ p n c V S, v = .slice p n c ∧ StV W p n c V S ∧ n ≤ 140737488355328 ∧ ∀ i, i < n → ∀ e, S i = some e → e.l < 140737488355328 := by
  have hr := reachBytes_lt
  rcases Go.Deep.open_int_rows Tacg.underlying31 Tacg.underlying23 Tacg.underlying5 (by kernel_rfl) (by kernel_rfl) h with ⟨hcs, _⟩ | ⟨a, len, cap, A, L, C, Z, hcs, _, hl, hm, hx, hc⟩
  · cases hcs
    exact ⟨none, 0, 0, fun _ => .slice none 0 0, fun _ => none, rfl, .inl ⟨rfl, rfl, rfl⟩, by omega, fun i hi => absurd hi (by omega)⟩
  · cases hcs
    have hsp := hs a len cap rfl
    have hb1 : Tacg.prog.bytesOf 5 = 1 := by kernel_rfl
    have hb2 : 1 ≤ Tacg.prog.bytesOf 23 := of_decide_eq_true (by kernel_rfl)
    have hlen : len ≤ 140737488355328 := by
      have hw := hsz ((len + (cap - len)) * Tacg.prog.bytesOf 23) (by rw [hx]; simp [DataW.weights, Tacg.underlying31])
      have := Nat.le_mul_of_pos_right (len + (cap - len)) hb2
      omega
    have hC : ∀ r, r < len → C r < 140737488355328 := fun r hr' => by
      obtain ⟨h1, h2, h3, h4, h5, h6, h7⟩ := hc r (by omega)
      cases hA : A r with
      | none => rw [h6 hA]; decide
      | some a' =>
        have hw := hsz ((Z r).length * 1) (by
          rw [hx]
          simp only [DataW.weights, Tacg.underlying31, List.mem_cons, List.mem_append]
          refine .inr (.inl (weights_all (d := Go.Deep.intRow .u8 (A r) (L r) (Z r)) (List.mem_map.2 ⟨r, List.mem_range.2 hr', rfl⟩) _ ?_))
          rw [hA]
          simp [Go.Deep.intRow, DataW.weights, Tacg.underlying23, hb1, lits]
          omega)
        omega
    have each : ∀ r, r < len → ∃ y : Ent, EntV W (.slice (A r) (L r) (C r)) y ∧ ∀ e, y = some e → e.l < 140737488355328 := fun r hr' => by
      obtain ⟨h1, h2, h3, h4, h5, h6, h7⟩ := hc r (by omega)
      exact entry_in h2 h4 (hC r hr') h5 h6 (fun x hx => (h7 x hx).2)
    obtain ⟨S, hS⟩ := Go.Deep.choose_lt each
    refine ⟨some a, len, cap, fun r => .slice (A r) (L r) (C r), S, rfl, .inr ⟨a.block, a.off, by rw [← addr_eq hsp], hl, fun i hi => ?_, fun i hi => (hS i hi).1⟩, hlen, fun i hi => (hS i hi).2⟩
    have := (hc i (by omega)).1
    rwa [add_eq hsp] at this

set_option maxRecDepth 100000 in
theorem lifted (os : Os) (started : os.Started) (H : Type) (enc : TypeId × Value → H) :
    ReturnsInHanded {} Tacg.checked os 4 .any (Rows.stepKeepsSpec.pre6 enc Tacg.prog Tacg.f4 Rows.stepKeepsRow.domain false) (Rows.stepKeepsSpec.post enc Tacg.prog Tacg.f4 false true false false) := by
  refine returnsInHanded_of_change_sized (C := Tacg.checked) own started (by kernel_rfl) Tacg.func4
    (ChangeSpec.witness6 (enc := enc) (C := Tacg.checked) false ⟨#[], #[.int .u8 0, .agg #[.slice none 0 0, .slice none 0 0], .agg #[.int .u8 0, .slice none 0 0]], []⟩ 8 (by kernel_rfl) (by kernel_rfl) (by kernel_rfl) (by kernel_rfl)) ?_
  intro W base args ds gs before hval0 hW hcnd hsz0 _
  have hsz : (DataW.weightsEach Tacg.prog (Tacg.f4.params.toList ++ Rows.stepKeepsSpec.plain.varTypes Tacg.prog) (ds ++ gs)).all (· ≤ reachBytes) = true := hsz0
  have hval : ∀ (j : Nat) t v, Tacg.f4.params[j]? = some t → args[j]? = some v → Value.okWide Tacg.prog W .any base t v := hval0
  have hW' := hW
  obtain ⟨p, q, hA0, hV, rfl, hfz, hnd⟩ := hW
  have hA : DataW.TrodAll enc Tacg.prog W 0 (fun _ => true) true Tacg.f4.params.toList args.toList ds p := hA0
  rw [Tacg.params4] at hA hval hsz
  obtain ⟨v0, vs0, d0, ds0, p0, q0, hargs, rfl, rfl, h0, r0⟩ := trodAll_cons hA
  obtain ⟨v1, vs1, d1, ds1, p1, q1, rfl, rfl, rfl, h1, r1⟩ := trodAll_cons r0
  obtain ⟨v2, vs2, d2, ds2, p2, q2, rfl, rfl, rfl, h2, r2⟩ := trodAll_cons r1
  obtain ⟨rfl, rfl, rfl⟩ := trodAll_nil r2
  obtain rfl : args = #[v0, v1, v2] := by cases args; simp_all
  obtain ⟨rfl, rfl⟩ := trodVars_none hV
  obtain ⟨a0, rfl, rfl, rfl, w0⟩ := open_int Tacg.underlying5 (hval 0 5 v0 rfl rfl) h0
  have k1 := h1
  have lt1 : ∀ x ∈ p1, x.block < W.heap.size := by obtain ⟨m, hm⟩ := k1; exact DataW.trod_lt m _ _ _ hm
  have k2 := h2
  have lt2 : ∀ x ∈ p2, x.block < W.heap.size := by obtain ⟨m, hm⟩ := k2; exact DataW.trod_lt m _ _ _ hm
  have ok1 := hval 1 34 v1 rfl rfl
  have ok2 := hval 2 36 v2 rfl rfl
  have hz1 : ∀ n ∈ d1.weights Tacg.prog 34, n ≤ reachBytes := fun n hn => by
    have := List.all_eq_true.1 hsz n (DataW.weights_mem_each (j := 1) rfl rfl n hn)
    simpa using this
  have hz2 : ∀ n ∈ d2.weights Tacg.prog 36, n ≤ reachBytes := fun n hn => by
    have := List.all_eq_true.1 hsz n (DataW.weights_mem_each (j := 2) rfl rfl n hn)
    simpa using this
  clear hA0 hval0 hsz hsz0 hval hA
  obtain ⟨c0, c1, y0, y1, n1, rfl, rfl, -, t0, t1⟩ := Go.Joins.open_agg2 Tacg.underlying34 (by kernel_rfl) (by kernel_rfl) ok1 h1
  obtain ⟨c2, c3, y2, y3, n2, rfl, rfl, -, t2, t3⟩ := Go.Joins.open_agg2 Tacg.underlying36 (by kernel_rfl) (by kernel_rfl) ok2 h2
  have z0 : ∀ n ∈ y0.1.weights Tacg.prog 31, n ≤ reachBytes := fun n hn => hz1 n (by
    simp only [DataW.weights, Tacg.underlying34]
    exact DataW.weights_mem_each (j := 0) rfl rfl n hn)
  have z1 : ∀ n ∈ y1.1.weights Tacg.prog 32, n ≤ reachBytes := fun n hn => hz1 n (by
    simp only [DataW.weights, Tacg.underlying34]
    exact DataW.weights_mem_each (j := 1) rfl rfl n hn)
  have z3 : ∀ n ∈ y3.1.weights Tacg.prog 22, n ≤ reachBytes := fun n hn => hz2 n (by
    simp only [DataW.weights, Tacg.underlying36]
    exact DataW.weights_mem_each (j := 1) rfl rfl n hn)
  have ct34 : Tacg.prog.cellTypes Tacg.prog.depth 34 = some [31, 32] := by kernel_rfl
  have ct36 : Tacg.prog.cellTypes Tacg.prog.depth 36 = some [5, 22] := by kernel_rfl
  have s0 : ∀ a l c, c0 = .slice (some a) l c → a.spot = none := fun a l c e => spot_field (i := 0) Tacg.underlying34 ct34 (by decide) rfl Tacg.underlying31 ok1 (by rw [e]; rfl)
  have s1 : ∀ a l c, c1 = .slice (some a) l c → a.spot = none := fun a l c e => spot_field (i := 1) Tacg.underlying34 ct34 (by decide) rfl Tacg.underlying32 ok1 (by rw [e]; rfl)
  have s3 : ∀ a l c, c3 = .slice (some a) l c → a.spot = none := fun a l c e => spot_field (i := 1) Tacg.underlying36 ct36 (by decide) rfl Tacg.underlying22 ok2 (by rw [e]; rfl)
  obtain ⟨sp, sn, sc, V, S, rfl, hS, hn, hl⟩ := rows_in t0 z0 s0
  obtain ⟨op, on, oc, oz, rfl, o1, o2, o3, o4, o5, o6⟩ := ints_in Tacg.underlying32 Tacg.underlying92 (by kernel_rfl) (by kernel_rfl) t1 z1
  obtain ⟨ap, an, ac, az, rfl, a1, a2, a3, a4, a5, a6⟩ := ints_in Tacg.underlying22 Tacg.underlying5 (by kernel_rfl) (by kernel_rfl) t3 z3
  have hO := out_in o1 o2 o5 o6 (fun x hx => s1 x on oc (by rw [hx]))
  obtain ⟨xa, ea, hxa, hxl⟩ := digits_in a1 a2 a3 a4 a5 a6 (fun x hx => s3 x an ac (by rw [hx]))
  obtain ⟨K, rfl, hK0, hK⟩ : ∃ K : Int, c2 = .int .u8 K ∧ 0 ≤ K ∧ K < 256 := by
    obtain ⟨K, hK, -, hw⟩ := DataW.trod_int Tacg.underlying5 t2
    cases hK
    simp only [Lit.wf, Bool.and_eq_true, decide_eq_true_eq] at hw
    have e1 : IntKind.u8.min = 0 := rfl
    have e2 : IntKind.u8.max = 255 := rfl
    exact ⟨K, rfl, by omega, by omega⟩
  obtain ⟨K, rfl⟩ := Int.eq_ofNat_of_zero_le hK0
  have w0' := w0
  simp only [Lit.wf, Bool.and_eq_true, decide_eq_true_eq] at w0'
  have e1 : IntKind.u8.min = 0 := rfl
  rw [ea] at k2 ok2 h2 hW' ⊢
  refine (stepKeeps_any a0 (by omega) K (by omega) xa sp op sn sc on oc V S _ hn (by omega) W hS hO hxa hl).mono fun e W' ⟨he, bel⟩ => ?_
  subst he
  exact ⟨_, rfl, _, _, _, [], _, [], hW', trodAll_mk1 (shut_bool Tacg.underlying4 _), (trodAll_cons_mk (shut_int Tacg.underlying5 w0) (trodAll_cons_mk (Below.trod laidOut (by kernel_rfl) (of_decide_eq_true (by kernel_rfl)) k1 bel lt1) (trodAll_cons_mk (Below.trod laidOut (by kernel_rfl) (of_decide_eq_true (by kernel_rfl)) k2 bel lt2) trodAll_mk0))), rfl, bel.frame _, fun h => by cases h⟩

theorem over : Rows.stepKeepsRow.holds Tacg.pinned (OpenSpec.ofChange Rows.stepKeepsSpec) :=
  OpenClaim.holds_of_wide 4 Tacg.f4 rfl rfl rfl rfl rfl rfl rfl ⟨rfl, rfl, rfl, rfl, rfl⟩ rfl rfl rfl rfl rfl (by kernel_rfl) Tacg.func4 (by kernel_rfl)
    (of_decide_eq_true (by kernel_rfl)) (by unfold Func.isWrapper; first | (rw [if_pos (by decide +kernel)]; kernel_rfl) | (rw [if_neg (by decide +kernel)]; exact ⟨rfl, rfl⟩))
    (fun os started H enc _ => lifted os started H enc)

/-- ████ THE STATEMENT ████ -/
theorem proved : Rows.StepKeepsSaid := over
#print axioms proved
end Go.Proofs.Ygctac.stepKeeps
