/-
  THE PROOF OF 'Rows.ChecksBiteSaid' ('fftlab/law.ChecksBite'). The walk lies in YgctacGr23.lean; here the input is opened, its size by the form's reach.
-/
import Derived.Test.YgctacRows
import Derived.Test.YgctacGr23
import Derived.SizedLaws
import Derived.WalkKit
import Derived.ProofKit
import Derived.OpenShut
import Derived.ShutString
import Derived.ChangeOld
import Derived.Below
import Derived.Deep.SlicePairs
import Derived.Lib.SmallJoins
namespace Go.Proofs.Ygctac.checksBite
open Go.ChangeShapes Go.WideShapes Go.ChangeAt Go.RowKit
open Go.ChangeMaps (open_string shut_string)
set_option linter.unusedVariables false

theorem own : ownKnob Tacg.prog.godebug = none := by kernel_rfl
theorem laidOut : laidOutB Tacg.prog = true := by kernel_rfl

set_option maxRecDepth 100000 in
/-- A slice that came in does not lead into the midst of a cell. -/
theorem spot_of {W : World} {r : Reach} {base : Nat} {t e : TypeId} {a : Addr} {l c : Nat} (hu : Tacg.prog.underlying t = some (.slice e)) (h : Cell.okWide Tacg.prog W r base t (.slice (some a) l c)) : a.spot = none := by
  simp only [Cell.okWide, hu, Cell.ok] at h
  exact h.2.2.2.1
set_option maxRecDepth 100000 in
theorem spot_val {W : World} {r : Reach} {base : Nat} {t e : TypeId} {a : Addr} {l c : Nat} (hu : Tacg.prog.underlying t = some (.slice e)) (h : Value.okWide Tacg.prog W r base t (.slice (some a) l c)) : a.spot = none := by
  simp only [Value.okWide, hu] at h
  exact spot_of hu h
set_option maxRecDepth 100000 in
/-- The cells of a slice: itself. -/
theorem cells_val {W : World} {r : Reach} {base : Nat} {t e : TypeId} {v : Value} (hu : Tacg.prog.underlying t = some (.slice e)) (h : Value.okWide Tacg.prog W r base t v) : v.cells.toList = [v] := by
  simp only [Value.okWide, hu, Cell.okWide] at h
  cases v <;> simp_all [Value.cells, Cell.ok]
theorem spot_cell {W : World} {x : Addr} {v : Value} (h : W.cell? x = some v) : x.spot = none := by
  rw [World.cell?] at h
  cases hb : x.spot with
  | none => rfl
  | some q =>
    rw [hb] at h
    split at h
    · simp at h
    · cases h
theorem addr_eq {x : Addr} (h : x.spot = none) : x = ⟨x.block, x.off, none⟩ := by
  cases x
  simp only at h
  subst h
  rfl
theorem add_eq {x : Addr} (h : x.spot = none) (i : Nat) : x.add i = ⟨x.block, x.off + i, none⟩ := by
  rw [addr_eq h]
  exact add_none _ _ _
theorem weights_all {H : Type} {P : Program} {e : TypeId} : ∀ {l : List (DataW H)} {d : DataW H}, d ∈ l → ∀ n ∈ d.weights P e, n ∈ DataW.weightsAll P e l
  | d0 :: l, d, hd, n, hn => by
    simp only [DataW.weightsAll, List.mem_append]
    rcases List.mem_cons.1 hd with rfl | h
    · exact .inl hn
    · exact .inr (weights_all h n hn)

/-- Digits that came in. -/
theorem digits_in {W : World} {a : Option Addr} {l c : Nat} {zs : List Int} (hlc : l ≤ c) (hz : zs.length = c) (hc : c < 140737488355328) (hw : ∀ n ∈ zs, (Lit.int .u8 n).wf = true) (h0 : a = none → c = 0) (hcell : ∀ x, a = some x → ∀ i, i < c → W.cell? (x.add i) = some (.int .u8 (zs.getD i 0))) (hs : ∀ x, a = some x → x.spot = none) :
    ∃ x : Ent, .slice a l c = vOf x ∧ EntOk W x ∧ ∀ e, x = some e → e.l < 140737488355328 := by
  cases a with
  | none =>
    obtain rfl := h0 rfl
    obtain rfl : l = 0 := by omega
    exact ⟨none, rfl, fun e he => by (cases he), fun e he => by (cases he)⟩
  | some x =>
    have hx := hs x rfl
    refine ⟨some ⟨x.block, x.off, l, c, fun i => zs.getD i 0⟩, ?_, fun e he => ?_, fun e he => ?_⟩
    · rw [addr_eq hx]; rfl
    · cases he
      refine ⟨hlc, by simp only; omega, fun i hi => ?_, fun i hi => ?_⟩
      · simp only at hi ⊢
        have hm : zs.getD i 0 ∈ zs := by
          have hl : i < zs.length := by omega
          simp [List.getD, hl]
        have := hw _ hm
        simp only [Lit.wf, Bool.and_eq_true, decide_eq_true_eq] at this
        have e1 : IntKind.u8.min = 0 := rfl
        have e2 : IntKind.u8.max = 255 := rfl
        omega
      · simp only at hi ⊢
        have := hcell x rfl i (by omega)
        rwa [add_eq hx] at this
    · cases he
      simp only
      omega
theorem entry_in {W : World} {a : Option Addr} {l c : Nat} {zs : List Int} (hlc : l ≤ c) (hz : zs.length = c) (hc : c < 140737488355328) (hw : ∀ n ∈ zs, (Lit.int .u8 n).wf = true) (h0 : a = none → c = 0) (hcell : ∀ x, a = some x → ∀ i, i < c → W.cell? (x.add i) = some (.int .u8 (zs.getD i 0))) :
    ∃ x : Ent, EntV W (.slice a l c) x ∧ ∀ e, x = some e → e.l < 140737488355328 := by
  rcases Nat.eq_zero_or_pos c with hc0 | hc0
  · subst hc0
    obtain rfl : l = 0 := by omega
    cases a with
    | none => exact ⟨none, .inl ⟨rfl, fun e he => by (cases he)⟩, fun e he => by (cases he)⟩
    | some x => exact ⟨some ⟨0, 0, 0, 0, fun _ => 0⟩, .inr ⟨x, _, rfl, rfl, rfl⟩, fun e he => by cases he; simp⟩
  · obtain ⟨x, h1, h2, h3⟩ := digits_in hlc hz hc hw h0 hcell (fun x hx => spot_cell (hcell x hx 0 hc0))
    exact ⟨x, .inl ⟨h1, h2⟩, h3⟩
/-- A slice of integers that came in. -/
theorem ints_in {H : Type} {enc : TypeId × Value → H} {W : World} {base : Nat} {held : Bool} {t e : TypeId} {k : IntKind} {fuel : Nat} {v : Value} {x : DataW H × List MemPlace} (ht : Tacg.prog.underlying t = some (.slice e)) (he : Tacg.prog.underlying e = some (.int k)) (hc : Tacg.prog.cellsOf e = 1) (hb : 1 ≤ Tacg.prog.bytesOf e)
    (h : DataW.trod enc Tacg.prog W base (fun _ => true) held fuel t [v] = some x) (hsz : ∀ n ∈ x.1.weights Tacg.prog t, n ≤ reachBytes) :
    ∃ a l c zs, v = .slice a l c ∧ l ≤ c ∧ List.length zs = c ∧ c < 140737488355328 ∧ (∀ n ∈ zs, (Lit.int k n).wf = true) ∧ (a = none → c = 0) ∧ ∀ y, a = some y → ∀ i, i < c → W.cell? (y.add i) = some (.int k (zs.getD i 0)) := by
  rcases open_ints ht he hc h with ⟨hcs, _⟩ | ⟨a, l, c, zs, hcs, _, hl, hm, hz, hx, hcell, hwz⟩
  · cases hcs
    exact ⟨none, 0, 0, [], rfl, Nat.le_refl _, rfl, by decide, (fun n hn => by cases hn), fun _ => rfl, (fun y hy => by cases hy)⟩
  · cases hcs
    simp only [if_true] at hz
    have hr := reachBytes_lt
    have hw := hsz (zs.length * Tacg.prog.bytesOf e) (by
      rw [hx]
      simp only [DataW.weights, ht, List.mem_cons]
      refine .inl ?_
      simp only [lits, List.length_map, List.length_take, List.length_drop]
      rw [show min l zs.length + (zs.length - l) = zs.length by omega])
    have hw2 := Nat.le_mul_of_pos_right zs.length hb
    refine ⟨some a, l, c, zs, rfl, hl, hz, by omega, hwz, (fun h => by cases h), fun y hy i hi => ?_⟩
    cases hy
    exact hcell i (by omega)
/-- A script that came in. -/
theorem script_in {H : Type} {enc : TypeId × Value → H} {W : World} {base : Nat} {held : Bool} {fuel : Nat} {v : Value} {x : DataW H × List MemPlace}
    (h : DataW.trod enc Tacg.prog W base (fun _ => true) held fuel 45 [v] = some x) (hsz : ∀ n ∈ x.1.weights Tacg.prog 45, n ≤ reachBytes) (hs : ∀ a l c, v = .slice (some a) l c → a.spot = none) :
    ∃ p n c K V X, v = .slice p n c ∧ ScV W p n c K V X ∧ n ≤ 140737488355328 := by
  have hr := reachBytes_lt
  rcases Go.Deep.open_slice_pairs Tacg.underlying45 Tacg.underlying36 (by kernel_rfl) rfl rfl (by kernel_rfl) (by kernel_rfl) h with ⟨hcs, _⟩ | ⟨a, len, cap, m, fl, V0, V1, D0, D1, P0, P1, hcs, _, hl, hm, hmm, hx, hc⟩
  · cases hcs
    exact ⟨none, 0, 0, fun _ => 0, fun _ => .slice none 0 0, fun _ => none, rfl, .inl ⟨rfl, rfl, rfl⟩, by omega⟩
  · cases hcs
    simp only [if_true] at hmm
    subst hmm
    have hsp := hs a len _ rfl
    have hb2 : 1 ≤ Tacg.prog.bytesOf 36 := of_decide_eq_true (by kernel_rfl)
    have hlen : len ≤ 140737488355328 := by
      have hw := hsz ((len + (m - len)) * Tacg.prog.bytesOf 36) (by rw [hx]; simp [DataW.weights, Tacg.underlying45])
      have := Nat.le_mul_of_pos_right (len + (m - len)) hb2
      omega
    have each : ∀ i, i < len → ∃ y : Nat × Ent, V0 i = .int .u8 y.1 ∧ EntV W (V1 i) y.2 := fun i hi => by
      obtain ⟨h1, h2, h3, h4⟩ := hc i (by omega)
      obtain ⟨z, hz, -, hw⟩ := DataW.trod_int Tacg.underlying5 h3
      simp only [Lit.wf, Bool.and_eq_true, decide_eq_true_eq] at hw
      have e1 : IntKind.u8.min = 0 := rfl
      have hz0 : 0 ≤ z := by omega
      have hwt : ∀ n ∈ (D1 i).weights Tacg.prog 22, n ≤ reachBytes := fun n hn => hsz n (by
        rw [hx]
        simp only [DataW.weights, Tacg.underlying45, List.mem_cons, List.mem_append]
        refine .inr (.inl (weights_all (d := .agg [D0 i, D1 i]) (List.mem_map.2 ⟨i, List.mem_range.2 hi, rfl⟩) _ ?_))
        simp only [DataW.weights, Tacg.underlying36]
        exact DataW.weights_mem_each (j := 1) rfl rfl n hn)
      obtain ⟨ap, an, ac, az, hv, a1, a2, a3, a4, a5, a6⟩ := ints_in Tacg.underlying22 Tacg.underlying5 (by kernel_rfl) (of_decide_eq_true (by kernel_rfl)) h4 hwt
      obtain ⟨xe, x1, x2⟩ := entry_in a1 a2 a3 a4 a5 a6
      refine ⟨(z.toNat, xe), ?_, by rw [hv]; exact x1⟩
      have hz' : V0 i = .int .u8 z := by simpa using hz
      rw [hz']
      simp only
      rw [Int.toNat_of_nonneg hz0]
    obtain ⟨y, hy⟩ := Go.Deep.choose_lt each
    refine ⟨some a, len, m, fun i => (y i).1, V1, fun i => (y i).2, rfl, .inr ⟨a.block, a.off, by rw [← addr_eq hsp], hl, fun i hi => ?_⟩, hlen⟩
    obtain ⟨h1, h2, h3, h4⟩ := hc i (by omega)
    rw [add_eq hsp] at h1 h2
    refine ⟨?_, ?_, (hy i hi).2⟩
    · rw [← (hy i hi).1, ← h1]
    · rw [← h2, Nat.add_assoc]

set_option maxRecDepth 100000 in
theorem lifted (os : Os) (started : os.Started) (H : Type) (enc : TypeId × Value → H) :
    ReturnsInHanded {} Tacg.checked os 5 .any (Rows.checksBiteSpec.pre6 enc Tacg.prog Tacg.f5 Rows.checksBiteRow.domain false) (Rows.checksBiteSpec.post enc Tacg.prog Tacg.f5 false true false false) := by
  refine returnsInHanded_of_change_sized (C := Tacg.checked) own started (by kernel_rfl) Tacg.func5
    (ChangeSpec.witness6 (enc := enc) (C := Tacg.checked) false ⟨#[], #[.slice none 0 0, .slice none 0 0, .int .u8 0], []⟩ 8 (by kernel_rfl) (by kernel_rfl) (by kernel_rfl) (by kernel_rfl)) ?_
  intro W base args ds gs before hval0 hW hcnd hsz0 _
  have hsz : (DataW.weightsEach Tacg.prog (Tacg.f5.params.toList ++ Rows.checksBiteSpec.plain.varTypes Tacg.prog) (ds ++ gs)).all (· ≤ reachBytes) = true := hsz0
  have hval : ∀ (j : Nat) t v, Tacg.f5.params[j]? = some t → args[j]? = some v → Value.okWide Tacg.prog W .any base t v := hval0
  have hW' := hW
  obtain ⟨p, q, hA0, hV, rfl, hfz, hnd⟩ := hW
  have hA : DataW.TrodAll enc Tacg.prog W 0 (fun _ => true) true Tacg.f5.params.toList args.toList ds p := hA0
  rw [Tacg.params5] at hA hval hsz
  obtain ⟨v0, vs0, d0, ds0, p0, q0, hargs, rfl, rfl, h0, r0⟩ := trodAll_cons hA
  obtain ⟨v1, vs1, d1, ds1, p1, q1, rfl, rfl, rfl, h1, r1⟩ := trodAll_cons r0
  obtain ⟨v2, vs2, d2, ds2, p2, q2, rfl, rfl, rfl, h2, r2⟩ := trodAll_cons r1
  obtain ⟨rfl, rfl, rfl⟩ := trodAll_nil r2
  obtain rfl : args = #[v0, v1, v2] := by cases args; simp_all
  obtain ⟨rfl, rfl⟩ := trodVars_none hV
  obtain ⟨a2, rfl, rfl, rfl, w2⟩ := open_int Tacg.underlying5 (hval 2 5 v2 rfl rfl) h2
  have k0 := h0
  have lt0 : ∀ x ∈ p0, x.block < W.heap.size := by obtain ⟨m, hm⟩ := k0; exact DataW.trod_lt m _ _ _ hm
  have k1 := h1
  have lt1 : ∀ x ∈ p1, x.block < W.heap.size := by obtain ⟨m, hm⟩ := k1; exact DataW.trod_lt m _ _ _ hm
  have ok0 := hval 0 45 v0 rfl rfl
  have ok1 := hval 1 46 v1 rfl rfl
  have hz0 : ∀ n ∈ d0.weights Tacg.prog 45, n ≤ reachBytes := fun n hn => by
    have := List.all_eq_true.1 hsz n (DataW.weights_mem_each (j := 0) rfl rfl n hn)
    simpa using this
  have hz1 : ∀ n ∈ d1.weights Tacg.prog 46, n ≤ reachBytes := fun n hn => by
    have := List.all_eq_true.1 hsz n (DataW.weights_mem_each (j := 1) rfl rfl n hn)
    simpa using this
  clear hA0 hval0 hsz hsz0 hval hA
  have s0 : ∀ a l c, v0 = .slice (some a) l c → a.spot = none := fun a l c e => spot_val Tacg.underlying45 (by rw [← e]; exact ok0)
  have s1 : ∀ a l c, v1 = .slice (some a) l c → a.spot = none := fun a l c e => spot_val Tacg.underlying46 (by rw [← e]; exact ok1)
  obtain ⟨fu0, t0⟩ := h0
  obtain ⟨fu1, t1⟩ := h1
  rw [cells_val Tacg.underlying45 ok0] at t0
  rw [cells_val Tacg.underlying46 ok1] at t1
  obtain ⟨sp, sn, sc, K, V, X, rfl, hS, hn⟩ := script_in (x := (d0, p0)) t0 hz0 s0
  obtain ⟨xp, xn, xc, zs, rfl, x1, x2, x3, x4, x5, x6⟩ := ints_in (x := (d1, p1)) Tacg.underlying46 Tacg.underlying65 (by kernel_rfl) (of_decide_eq_true (by kernel_rfl)) t1 hz1
  have hwz : ∀ i, i < xn → 0 ≤ zs.getD i 0 ∧ zs.getD i 0 < 18446744073709551616 := fun i hi => by
    have hm : zs.getD i 0 ∈ zs := by
      have hl : i < zs.length := by omega
      simp [List.getD, hl]
    have := x4 _ hm
    simp only [Lit.wf, Bool.and_eq_true, decide_eq_true_eq] at this
    have e1 : IntKind.u64.min = 0 := rfl
    have e2 : IntKind.u64.max = 18446744073709551615 := rfl
    omega
  have hX : SlV W xp xn (ulX fun i => (zs.getD i 0).toNat) := fun i hi => by
    cases xp with
    | none => have := x5 rfl; omega
    | some y =>
      have hy := s1 y xn xc rfl
      refine ⟨y.block, y.off, by rw [← addr_eq hy], ?_⟩
      have := x6 y rfl i (by omega)
      rw [add_eq hy] at this
      rw [this]
      simp only [ulX]
      rw [Int.toNat_of_nonneg (hwz i hi).1]
  have w2' := w2
  simp only [Lit.wf, Bool.and_eq_true, decide_eq_true_eq] at w2'
  have e1 : IntKind.u8.min = 0 := rfl
  have e2 : IntKind.u8.max = 255 := rfl
  obtain ⟨h, rfl⟩ := Int.eq_ofNat_of_zero_le (show 0 ≤ a2 by omega)
  refine (checksBite_any sp sn sc K V X xp xn xc h _ hn (by omega) x1 (by omega) (fun i hi => by have := hwz i hi; omega) W hS hX).mono fun e W' ⟨he, bel⟩ => ?_
  subst he
  exact ⟨_, rfl, _, _, _, [], _, [], hW', trodAll_mk1 (shut_bool Tacg.underlying4 _), (trodAll_cons_mk (Below.trod laidOut (by kernel_rfl) (of_decide_eq_true (by kernel_rfl)) k0 bel lt0) (trodAll_cons_mk (Below.trod laidOut (by kernel_rfl) (of_decide_eq_true (by kernel_rfl)) k1 bel lt1) (trodAll_cons_mk (shut_int Tacg.underlying5 w2) trodAll_mk0))), rfl, bel.frame _, fun h => by cases h⟩

theorem over : Rows.checksBiteRow.holds Tacg.pinned (OpenSpec.ofChange Rows.checksBiteSpec) :=
  OpenClaim.holds_of_wide 5 Tacg.f5 rfl rfl rfl rfl rfl rfl rfl ⟨rfl, rfl, rfl, rfl, rfl⟩ rfl rfl rfl rfl rfl (by kernel_rfl) Tacg.func5 (by kernel_rfl)
    (of_decide_eq_true (by kernel_rfl)) (by unfold Func.isWrapper; first | (rw [if_pos (by decide +kernel)]; kernel_rfl) | (rw [if_neg (by decide +kernel)]; exact ⟨rfl, rfl⟩))
    (fun os started H enc _ => lifted os started H enc)

/-- ████ THE STATEMENT ████ -/
theorem proved : Rows.ChecksBiteSaid := over
#print axioms proved
end Go.Proofs.Ygctac.checksBite
