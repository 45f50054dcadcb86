/-
  A REGION THAT DRAWS ITS ORDER, BY AN INVARIANT: what has come up so far is told by a predicate; each operation is walked ONCE, whatever came before it.
-/
import Derived.Orders
import Derived.Laws.World
namespace Go.Proofs.Ygctac

def left (L : Nat → Bool) (n : Nat) : Nat := (List.range n).countP fun j => !L j

theorem left_set (L : Nat → Bool) (i n : Nat) (hi : i < n) (h : L i = false) : left (fun j => if j = i then true else L j) n + 1 = left L n := by
  unfold left
  induction n with
  | zero => omega
  | succ n ih =>
    rw [List.range_succ, List.countP_append, List.countP_append]
    rcases Nat.lt_or_ge i n with h' | h'
    · have := ih h'
      have e : n ≠ i := by omega
      simp only [List.countP_cons, List.countP_nil, e, if_false] at this ⊢
      omega
    · obtain rfl : i = n := by omega
      have e : (List.range i).countP (fun j => !(if j = i then true else L j)) = (List.range i).countP (fun j => !L j) := by
        apply List.countP_congr
        intro j hj
        have : j ≠ i := by have := List.mem_range.1 hj; omega
        simp [this]
      rw [e]
      simp [h]

theorem left_zero (L : Nat → Bool) (n : Nat) (h : left L n = 0) (i : Nat) (hi : i < n) : L i = true := by
  unfold left at h
  rw [List.countP_eq_zero] at h
  have := h i (List.mem_range.2 hi)
  simpa using this

section
variable {P : Program} {ops : Array Oper} {Q : Exit → Act → World → Prop} {I : (Nat → Bool) → Act → World → Prop}

theorem wpAny_inv (hord : ∀ i o, ops[i]? = some o → ∀ e ∈ o.after, Region.binds .any e = true → e.on < i)
    (step : ∀ (L : Nat → Bool) (a : Act) (w : World) (i : Nat) (o : Oper), I L a w → ops[i]? = some o → L i = false →
      (∀ e ∈ o.after, Region.binds .any e = true → L e.on = true) → wpOp P ops Q i (fun a' w' => I (fun j => if j = i then true else L j) a' w') a w)
    (fin : ∀ (L : Nat → Bool) (a : Act) (w : World), I L a w → (∀ i, i < ops.size → L i = true) → Q .normal a w) :
    ∀ (fuel : Nat) (listed : Array Bool) (L : Nat → Bool) (a : Act) (w : World), listed.size = ops.size → (∀ j, j < ops.size → ∀ d, listed.getD j d = L j) → left L ops.size ≤ fuel → I L a w →
      wpAny P .any ops Q fuel listed a w := by
  have none : ∀ (listed : Array Bool) (L : Nat → Bool), listed.size = ops.size → (∀ j, j < ops.size → ∀ d, listed.getD j d = L j) → (∀ i, i < ops.size → L i = true) → Region.ready .any ops listed = [] := by
    intro listed L hs hL h
    rw [List.eq_nil_iff_forall_not_mem]
    intro j hj
    obtain ⟨h1, o, ho, _⟩ := mem_ready.1 hj
    have hlt : j < ops.size := (Array.getElem?_eq_some_iff.1 ho).1
    rw [hL j hlt, h j hlt] at h1
    cases h1
  have all : ∀ (listed : Array Bool) (L : Nat → Bool), listed.size = ops.size → (∀ j, j < ops.size → ∀ d, listed.getD j d = L j) → Region.ready .any ops listed = [] → ∀ i, i < ops.size → L i = true := by
    intro listed L hs hL h i
    induction i using Nat.strongRecOn with
    | _ i ih =>
      intro hi
      cases hLi : L i with
      | true => rfl
      | false =>
        exfalso
        have : i ∈ Region.ready .any ops listed := by
          refine mem_ready.2 ⟨by rw [hL i hi, hLi], ops[i], Array.getElem?_eq_getElem hi, fun e he hb => ?_⟩
          have hlt := hord i ops[i] (Array.getElem?_eq_getElem hi) e he hb
          rw [hL e.on (by omega)]
          exact ih e.on hlt (by omega)
        rw [h] at this
        cases this
  intro fuel
  induction fuel with
  | zero =>
    intro listed L a w hs hL hl hI
    have h0 := left_zero L ops.size (by omega)
    exact ⟨none listed L hs hL h0, fin L a w hI h0⟩
  | succ fuel ih =>
    intro listed L a w hs hL hl hI
    refine ⟨fun h => fin L a w hI (all listed L hs hL h), fun i hi => ?_⟩
    obtain ⟨h1, o, ho, h2⟩ := mem_ready.1 hi
    have hlt : i < ops.size := (Array.getElem?_eq_some_iff.1 ho).1
    rw [hL i hlt] at h1
    refine wpOp_mono (fun a' w' hI' => ?_) (step L a w i o hI ho h1 (fun e he hb => by
      have := h2 e he hb
      rwa [hL e.on (by have := hord i o ho e he hb; omega)] at this))
    refine ih (listed.setIfInBounds i true) _ a' w' (by simpa using hs) (fun j hj d => ?_) (by have := left_set L i ops.size hlt h1; omega) hI'
    by_cases e : j = i
    · subst e
      simp [hs, hj]
    · rw [getD_set_ne d (Ne.symm e), hL j hj]
      simp [e]

theorem wp_region_inv {id : Nat} {a : Act} {w : World} (hm : P.follows .mixedOrders = true)
    (hord : ∀ i o, ops[i]? = some o → ∀ e ∈ o.after, Region.binds .any e = true → e.on < i)
    (h0 : I (fun _ => false) a w.drew)
    (step : ∀ (L : Nat → Bool) (a : Act) (w : World) (i : Nat) (o : Oper), I L a w → ops[i]? = some o → L i = false →
      (∀ e ∈ o.after, Region.binds .any e = true → L e.on = true) → wpOp P ops Q i (fun a' w' => I (fun j => if j = i then true else L j) a' w') a w)
    (fin : ∀ (L : Nat → Bool) (a : Act) (w : World), I L a w → (∀ i, i < ops.size → L i = true) → Q .normal a w) :
    (Code.region id ops true).wp P Q a w := by
  refine wp_region_any hm (wpAny_inv hord step fin ops.size _ (fun _ => false) a w.drew (by simp) (fun j hj d => ?_) ?_ h0)
  · simp [hj]
  · unfold left
    exact Nat.le_trans List.countP_le_length (by simp)

/-- Do all edges lead back? -/
def backB (ops : Array Oper) : Bool := (List.range ops.size).all fun i => (ops[i]?).all fun o => o.after.all fun e => !Region.binds .any e || decide (e.on < i)

theorem back_of (h : backB ops = true) : ∀ i o, ops[i]? = some o → ∀ e ∈ o.after, Region.binds .any e = true → e.on < i := by
  intro i o ho e he hb
  have hlt : i < ops.size := (Array.getElem?_eq_some_iff.1 ho).1
  unfold backB at h
  rw [List.all_eq_true] at h
  have h1 := h i (List.mem_range.2 hlt)
  rw [ho] at h1
  simp only [Option.all_some, Array.all_eq_true_iff_forall_mem] at h1
  have h2 := h1 e he
  rw [hb] at h2
  simpa using h2
/-- The same, the invariant told over the state in which the region begins. -/
theorem wp_region_from {J : Act → (Nat → Bool) → Act → World → Prop} {id : Nat} {a : Act} {w : World} (hm : P.follows .mixedOrders = true) (hord : backB ops = true)
    (h0 : J a (fun _ => false) a w.drew)
    (step : ∀ (L : Nat → Bool) (a' : Act) (w' : World) (i : Nat) (o : Oper), J a L a' w' → ops[i]? = some o → L i = false →
      (∀ e ∈ o.after, Region.binds .any e = true → L e.on = true) → wpOp P ops Q i (fun a₁ w₁ => J a (fun j => if j = i then true else L j) a₁ w₁) a' w')
    (fin : ∀ (L : Nat → Bool) (a' : Act) (w' : World), J a L a' w' → (∀ i, i < ops.size → L i = true) → Q .normal a' w') :
    (Code.region id ops true).wp P Q a w := wp_region_inv (I := J a) hm (back_of hord) h0 step fin

/-- An operation without a guard is carried out. -/
theorem wpOp_of {i : Nat} {o : Oper} {K : Act → World → Prop} {a : Act} {w : World} (ho : ops[i]? = some o) (hg : o.guard = none) (h : o.wp P a w K Q) : wpOp P ops Q i K a w := by
  unfold wpOp
  rw [ho]
  have hw : Region.wanted o (yielded ops a.tmps) = true := by simp [Region.wanted, hg]
  simp only [hw, if_true]
  exact Or.inl h


theorem wpOp_by {i : Nat} {o : Oper} {K0 : Act → World → Prop} {a : Act} {w : World} (ho : ops[i]? = some o) (hg : o.guard = none) (h : ∀ K : Act → World → Prop, (∀ a₁ w₁, K0 a₁ w₁ → K a₁ w₁) → o.wp P a w K Q) : wpOp P ops Q i K0 a w :=
  wpOp_of ho hg (h K0 (fun _ _ h => h))

theorem put_self (a : Act) (t : Nat) : ∃ v, a.put (some t) v = a := by
  refine ⟨a.tmps.getD t undef, ?_⟩
  unfold Act.put
  have : a.tmps.setIfInBounds t (a.tmps.getD t undef) = a.tmps := by
    apply Array.ext_getElem?
    intro i
    rw [Array.getElem?_setIfInBounds]
    by_cases e : t = i
    · subst e
      rcases Nat.lt_or_ge t a.tmps.size with h | h
      · simp [h]
      · simp [Array.getElem?_eq_none h]; omega
    · simp [e]
  simp only [this]

theorem put_self6 (a : Act) (t1 t2 t3 t4 t5 t6 : Nat) : ∃ v1 v2 v3 v4 v5 v6, a = (((((a.put (some t1) v1).put (some t2) v2).put (some t3) v3).put (some t4) v4).put (some t5) v5).put (some t6) v6 := by
  obtain ⟨v1, h1⟩ := put_self a t1
  obtain ⟨v2, h2⟩ := put_self a t2
  obtain ⟨v3, h3⟩ := put_self a t3
  obtain ⟨v4, h4⟩ := put_self a t4
  obtain ⟨v5, h5⟩ := put_self a t5
  obtain ⟨v6, h6⟩ := put_self a t6
  exact ⟨v1, v2, v3, v4, v5, v6, by rw [h1, h2, h3, h4, h5, h6]⟩

theorem put_self5 (a : Act) (t1 t2 t3 t4 t5 : Nat) : ∃ v1 v2 v3 v4 v5, a = ((((a.put (some t1) v1).put (some t2) v2).put (some t3) v3).put (some t4) v4).put (some t5) v5 := by
  obtain ⟨v1, h1⟩ := put_self a t1
  obtain ⟨v2, h2⟩ := put_self a t2
  obtain ⟨v3, h3⟩ := put_self a t3
  obtain ⟨v4, h4⟩ := put_self a t4
  obtain ⟨v5, h5⟩ := put_self a t5
  exact ⟨v1, v2, v3, v4, v5, by rw [h1, h2, h3, h4, h5]⟩
end
end Go.Proofs.Ygctac
