/-
  wp_region_mid over any set of worlds; the set of the worlds that have grown at their end (callees that allocate).
-/
import Derived.Test.YgctacMid
import Derived.Test.YgctacNt2
namespace Go.Proofs.Ygctac
open Go.RowKit
set_option linter.unusedVariables false
set_option linter.unusedSimpArgs false

section
variable {P : Program} {Q : Exit → Act → World → Prop} {C : World → Prop}
theorem wp_region_midC {id : Nat} {l : List Oper} (k : Nat) {a : Act} {w : World} (hC0 : C w.drew) (hm : P.follows .mixedOrders = true) (hk : k < l.length)
    (hback : backB l.toArray = true) (hcons : consB k l.toArray = true) (hguard : guardB k l.toArray = true) (hB : Region.lexB .any (l.take k).toArray = true)
    (hB2 : Region.noSelect l.toArray = true ∧ Region.lexFrom .any l.toArray (l.drop (k + 1)).length (k + 1) (arr (fun j => decide (j ≤ k)) l.length) = true)
    (h : wpQuiet P (l.take k).toArray C (fun a' => ∀ w', C w' →
      wpOp P l.toArray Q k (fun a2 w2 => ∃ C2 : World → Prop, C2 w2 ∧ wpQuiet P l.toArray C2 (fun a3 => ∀ w3, C2 w3 → Q .normal a3 w3) (l.drop (k + 1)) a2) a' w') (l.take k) a) :
    (Code.region id l.toArray true).wp P Q a w := by
  have hb := back_of hback
  have hsz : l.toArray.size = l.length := by simp
  have hAsz : (l.take k).toArray.size = k := by simp; omega
  have hA : ∀ i, i < k → (l.take k).toArray[i]? = l.toArray[i]? := by
    intro i hi
    simp [List.getElem?_take, hi]
  simp only [consB, Bool.and_eq_true, List.all_eq_true, List.mem_range] at hcons
  obtain ⟨hc1, hc2⟩ := hcons
  -- what is behind k waits for k
  have behind : ∀ L, Legal l.toArray L → L k = false → ∀ i, k < i → i < l.length → L i = false := by
    intro L hL hLk i
    induction i using Nat.strongRecOn with
    | _ i ih =>
      intro h1 h2
      cases hLi : L i with
      | false => rfl
      | true =>
        exfalso
        have := hc2 i (by rw [hsz]; exact h2)
        rw [Array.getElem?_eq_getElem (by rw [hsz]; exact h2)] at this
        simp only [h1, decide_true, Bool.not_true, Bool.false_or, Option.map_some, Option.getD_some, Array.any_eq_true'] at this
        obtain ⟨e, he, hq⟩ := this
        simp only [Bool.and_eq_true, decide_eq_true_eq] at hq
        obtain ⟨⟨q1, q2⟩, q3⟩ := hq
        have hon := hL i _ (Array.getElem?_eq_getElem (by rw [hsz]; exact h2)) hLi e he q1
        rcases Nat.lt_or_ge k e.on with h' | h'
        · rw [ih e.on q3 h' (by omega)] at hon; cases hon
        · have : e.on = k := by omega
          rw [this, hLk] at hon; cases hon
  -- where k's edges are listed all ahead of it is
  have ahead : ∀ L, Legal l.toArray L → (∀ o, l.toArray[k]? = some o → ∀ e ∈ o.after, Region.binds .any e = true → L e.on = true) → ∀ j, j < k → L j = true := by
    intro L hL hx
    have key : ∀ d j, j < k → k - j ≤ d → L j = true := by
      intro d
      induction d with
      | zero => intro j h1 h2; omega
      | succ d ih =>
        intro j h1 h2
        have := hc1 j h1
        simp only [List.any_eq_true, List.mem_range, Bool.and_eq_true, decide_eq_true_eq] at this
        obtain ⟨i, hi, hji, ho⟩ := this
        cases hoi : l.toArray[i]? with
        | none => rw [hoi] at ho; simp at ho
        | some o =>
          rw [hoi] at ho
          simp only [Option.map_some, Option.getD_some, Array.any_eq_true', Bool.and_eq_true, decide_eq_true_eq] at ho
          obtain ⟨e, he, q1, q2⟩ := ho
          rw [← q2]
          rcases Nat.lt_or_ge i k with h' | h'
          · exact hL i o hoi (ih i h' (by omega)) e he q1
          · obtain rfl : i = k := by omega
            exact hx o hoi e he q1
    intro j hj
    exact key (k - j) j hj (Nat.le_refl _)
  have none : ∀ (ops : Array Oper) (L : Nat → Bool) (n : Nat), (∀ j, j < n → L j = true) → Region.ready .any ops (arr L n) = [] := by
    intro ops L n hall
    rw [List.eq_nil_iff_forall_not_mem]
    intro j hj
    have h1 := (mem_ready.1 hj).1
    rw [arr_getD] at h1
    split at h1
    · rename_i h'; rw [hall j h'] at h1; cases h1
    · cases h1
  have isReady : ∀ (ops : Array Oper) (L : Nat → Bool) (n i : Nat) (o : Oper), ops[i]? = some o → i < n → L i = false → (∀ e ∈ o.after, Region.binds .any e = true → L e.on = true) → (∀ e ∈ o.after, Region.binds .any e = true → e.on < i) → i ∈ Region.ready .any ops (arr L n) := by
    intro ops L n i o ho hi hL he hlt
    refine mem_ready.2 ⟨by rw [arr_getD, if_pos hi, hL], o, ho, fun e h1 h2 => ?_⟩
    rw [arr_getD, if_pos (by have := hlt e h1 h2; omega)]
    exact he e h1 h2
  have sameQ : ∀ (C : World → Prop) (i : Nat) (K : Act → Prop) (a : Act), i < k → qOp P (l.take k).toArray C i K a → qOp P l.toArray C i K a := by
    intro C i K a hi hq
    unfold qOp at hq ⊢
    rw [hA i hi] at hq
    have hil : i < l.length := by omega
    cases ho : l.toArray[i]? with
    | none => rw [ho] at hq; exact hq
    | some o =>
      rw [ho] at hq
      have hw : Region.wanted o (yielded (l.take k).toArray a.tmps) = Region.wanted o (yielded l.toArray a.tmps) := by
        unfold Region.wanted
        cases hg : o.guard with
        | none => rfl
        | some p =>
          obtain ⟨g, b⟩ := p
          have := hguard
          simp only [guardB, List.all_eq_true, List.mem_range] at this
          have hgk := this i hi
          rw [ho] at hgk
          simp only [Option.map_some, Option.getD_some, hg, decide_eq_true_eq] at hgk
          show (yielded (l.take k).toArray a.tmps g == some b) = (yielded l.toArray a.tmps g == some b)
          unfold yielded
          rw [hA g hgk]
      simp only [hw] at hq
      exact hq
  have legal' : ∀ L i o, Legal l.toArray L → l.toArray[i]? = some o → (∀ e ∈ o.after, Region.binds .any e = true → L e.on = true) → Legal l.toArray (fun j => if j = i then true else L j) := by
    intro L i o hL ho he j oj hoj hj e h1 h2
    by_cases hji : j = i
    · subst hji
      rw [ho] at hoj
      cases hoj
      have := he e h1 h2
      simp [this]
    · simp only [hji, if_false] at hj
      have := hL j oj hoj hj e h1 h2
      simp [this]
  have hlex := hB
  simp only [Region.lexB, Bool.and_eq_true] at hlex
  let Cw : World → Prop := C
  let K2 : Act → World → Prop := fun a2 w2 => ∃ C2 : World → Prop, C2 w2 ∧ wpQuiet P l.toArray C2 (fun a3 => ∀ w3, C2 w3 → Q .normal a3 w3) (l.drop (k + 1)) a2
  let R1 : Act → Prop := fun a' => ∀ w', Cw w' → wpOp P l.toArray Q k K2 a' w'
  refine wp_region_inv (I := fun L a' w' => Legal l.toArray L ∧ ((L k = false ∧ Cw w' ∧ ∃ fuel, wpAnyQ P .any (l.take k).toArray Cw R1 fuel (arr L k) a') ∨
    (L k = true ∧ (∀ j, j < k → L j = true) ∧ ∃ C2 : World → Prop, C2 w' ∧ ∃ fuel, wpAnyQ P .any l.toArray C2 (fun a3 => ∀ w3, C2 w3 → Q .normal a3 w3) fuel (arr L l.length) a'))) hm hb ?_ ?_ ?_
  · refine ⟨fun i o _ h => (by cases h), .inl ⟨rfl, hC0, ?_⟩⟩
    have := wpAnyQ_lex (P := P) (C := Cw) (Q := R1) (md := .any) (ops := (l.take k).toArray) hlex.1 (l.take k) 0 (Array.replicate (l.take k).toArray.size false) a (by simp) (by simpa using hlex.2) h
    refine ⟨(l.take k).length, ?_⟩
    have e : arr (fun _ => false) k = Array.replicate (l.take k).toArray.size false := by
      rw [hAsz]
      apply Array.ext
      · simp [arr]
      · intro j h1 h2; simp [arr]
    rw [e]
    exact this
  · rintro L a' w' i o ⟨hL, hI⟩ ho hLi hed
    have hil : i < l.length := by have := (Array.getElem?_eq_some_iff.1 ho).1; rwa [hsz] at this
    have hL' := legal' L i o hL ho hed
    rcases hI with ⟨hk0, hC, fuel, hq⟩ | ⟨hk1, hall, C2, hC2, fuel, hq⟩
    · rcases Nat.lt_trichotomy i k with hik | hik | hik
      · have hr := isReady (l.take k).toArray L k i o ((hA i hik).trans ho) hik hLi hed (hb i o ho)
        cases fuel with
        | zero => rw [hq.1] at hr; cases hr
        | succ f =>
          have h1 := sameQ Cw i _ a' hik (hq.2 i hr)
          refine wpOp_of_qOp hC (fun a2 w2 hw2 h2 => ?_) h1
          refine ⟨hL', .inl ⟨by simp [show k ≠ i by omega, hk0], hw2, f, ?_⟩⟩
          rw [arr_set]
          exact h2
      · subst hik
        have hall := ahead L hL (fun o' ho' => by rw [ho] at ho'; cases ho'; exact hed)
        have hR : R1 a' := wpAnyQ_done hq (none _ L i hall)
        refine wpOp_mono (fun a2 w2 hK => ?_) (hR w' hC)
        obtain ⟨C2, hc, hwq⟩ := hK
        refine ⟨hL', .inr ⟨by simp, fun j hj => by simp [show j ≠ i by omega, hall j hj], C2, hc, (l.drop (i + 1)).length, ?_⟩⟩
        have e : arr (fun j => if j = i then true else L j) l.length = arr (fun j => decide (j ≤ i)) l.length := by
          apply Array.ext
          · simp [arr]
          · intro j h1 h2
            have hjl : j < l.length := by simpa [arr] using h1
            simp only [arr, Array.getElem_ofFn]
            rcases Nat.lt_trichotomy j i with h' | h' | h'
            · simp [show j ≠ i by omega, hall j h', show j ≤ i by omega]
            · simp [h']
            · simp [show j ≠ i by omega, behind L hL hk0 j h' hjl, show ¬ j ≤ i by omega]
        rw [e]
        exact wpAnyQ_lex (P := P) (C := C2) (md := .any) hB2.1 (l.drop (i + 1)) (i + 1) _ a2 (fun j => by simp) hB2.2 hwq
      · exfalso
        have := hc2 i (by rw [hsz]; exact hil)
        rw [ho] at this
        simp only [hik, decide_true, Bool.not_true, Bool.false_or, Option.map_some, Option.getD_some, Array.any_eq_true'] at this
        obtain ⟨e, he, hq2⟩ := this
        simp only [Bool.and_eq_true, decide_eq_true_eq] at hq2
        obtain ⟨⟨q1, q2⟩, q3⟩ := hq2
        have hon := hed e he q1
        rcases Nat.lt_or_ge k e.on with h' | h'
        · rw [behind L hL hk0 e.on h' (by omega)] at hon; cases hon
        · have : e.on = k := by omega
          rw [this, hk0] at hon; cases hon
    · have hr := isReady l.toArray L l.length i o ho hil hLi hed (hb i o ho)
      have hik : i ≠ k := fun e => by rw [e, hk1] at hLi; cases hLi
      cases fuel with
      | zero => rw [hq.1] at hr; cases hr
      | succ f =>
        refine wpOp_of_qOp hC2 (fun a2 w2 hw2 h2 => ?_) (hq.2 i hr)
        refine ⟨hL', .inr ⟨by simp [hk1], fun j hj => by simp [hall j hj], C2, hw2, f, ?_⟩⟩
        rw [arr_set]
        exact h2
  · rintro L a' w' ⟨hL, hI⟩ hall
    rcases hI with ⟨hk0, _⟩ | ⟨_, _, C2, hC2, fuel, hq⟩
    · rw [hall k (by rw [hsz]; exact hk)] at hk0; cases hk0
    · exact wpAnyQ_done hq (none _ L _ (fun j hj => hall j (by rw [hsz]; exact hj))) w' hC2
end

/-- The world, grown at its end. -/
structure Grown (w0 : World) where
  w : World
  h : Below w0.heap.size w0 w
theorem grown_ne (w0 : World) : Nonempty (Grown w0) := ⟨⟨w0, Below.refl _ _⟩⟩
def GC (w0 : World) : World → Prop := fun w' => ∃ n : Grown w0, w' = n.w
theorem GC.of {w0 w : World} (h : Below w0.heap.size w0 w) : ∃ n : Grown w0, w = n.w := ⟨⟨w, h⟩, rfl⟩
theorem Grown.cell {w0 : World} {a : Addr} {v : Value} (h : w0.cell? a = some v) (n : Grown w0) : n.w.cell? a = some v := by
  rw [n.h.cell (World.block_lt_of_cell? w0 a h), h]
/-- A callee that allocates at most. -/
theorem Calls.grown {P : Program} {f : FuncId} {args : Array Value} {w0 : World} {n : Grown w0} {v : Value}
    (h : Calls P f args n.w fun e w' => e = .returned v ∧ Below n.w.heap.size n.w w') : Calls P f args n.w fun e w'' => e = .returned v ∧ ∃ m : Grown w0, w'' = m.w :=
  h.mono fun _ _ ⟨he, hm⟩ => ⟨he, GC.of (n.h.trans (hm.mono n.h.size))⟩
theorem wp_region_quietC {P : Program} {id : Nat} {Q : Exit → Act → World → Prop} {a : Act} {w : World} {l : List Oper} (hm : P.follows .mixedOrders = true) (hB : Region.lexB .any l.toArray = true)
    (h : wpQuiet P l.toArray (fun w' => ∃ n : Grown w, w' = n.w) (fun a' => ∀ w', (∃ n : Grown w, w' = n.w) → Q .normal a' w') l a) : (Code.region id l.toArray true).wp P Q a w :=
  wp_region_quiet (C := fun w' => ∃ n : Grown w, w' = n.w) hm hB (GC.of ((Below.refl _ w).drew)) (by simpa using h)
theorem wp_region_midG {P : Program} {Q : Exit → Act → World → Prop} {id : Nat} {l : List Oper} (k : Nat) {a : Act} {w : World} (hm : P.follows .mixedOrders = true) (hk : k < l.length)
    (hback : backB l.toArray = true) (hcons : consB k l.toArray = true) (hguard : guardB k l.toArray = true) (hB : Region.lexB .any (l.take k).toArray = true)
    (hB2 : Region.noSelect l.toArray = true ∧ Region.lexFrom .any l.toArray (l.drop (k + 1)).length (k + 1) (arr (fun j => decide (j ≤ k)) l.length) = true)
    (h : wpQuiet P (l.take k).toArray (fun w' => ∃ n : Grown w, w' = n.w) (fun a' => ∀ w', (∃ n : Grown w, w' = n.w) →
      wpOp P l.toArray Q k (fun a2 w2 => ∃ C2 : World → Prop, C2 w2 ∧ wpQuiet P l.toArray C2 (fun a3 => ∀ w3, C2 w3 → Q .normal a3 w3) (l.drop (k + 1)) a2) a' w') (l.take k) a) :
    (Code.region id l.toArray true).wp P Q a w :=
  wp_region_midC k (C := fun w' => ∃ n : Grown w, w' = n.w) (GC.of ((Below.refl _ w).drew)) hm hk hback hcons hguard hB hB2 h
end Go.Proofs.Ygctac
