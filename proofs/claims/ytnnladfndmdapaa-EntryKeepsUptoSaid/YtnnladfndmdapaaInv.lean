/- A region that draws its order, by what holds between two of its operations. -/
import Derived.Test.YtnnladfndmdapaaMem
namespace Go.Proofs.Ytnnladfndmdapaa
open Go.RowKit

/-- Each operation names only earlier ones. -/
def lexB (ops : Array Oper) : Bool := (List.range ops.size).all fun i => ((ops[i]?).map fun o => o.after.all fun e => decide (e.on < i)).getD true
theorem lexB_spec {ops : Array Oper} (h : lexB ops = true) {i : Nat} {o : Oper} (hi : ops[i]? = some o) : ∀ e ∈ o.after, e.on < i := by
  have hlt : i < ops.size := (Array.getElem?_eq_some_iff.1 hi).1
  have := List.all_eq_true.1 h i (List.mem_range.2 hlt)
  rw [hi] at this
  intro e he
  simp only [Option.map_some, Option.getD_some] at this
  exact of_decide_eq_true (Array.all_eq_true'.1 this e he)
/-- What is listed. -/
def lis (listed : Array Bool) (k : Nat) : Bool := listed.getD k false
def upd (L : Nat → Bool) (i : Nat) : Nat → Bool := fun k => if k = i then true else L k
theorem lis_upd {listed : Array Bool} {i : Nat} (h : i < listed.size) : lis (listed.setIfInBounds i true) = upd (lis listed) i := by
  funext k
  unfold lis upd
  rw [Array.getD_eq_getD_getElem?, Array.getElem?_setIfInBounds]
  by_cases hk : i = k
  · subst hk; simp [h]
  · simp [hk, Ne.symm hk]
theorem ready_spec {md : Region.Mode} {ops : Array Oper} {listed : Array Bool} {i : Nat} (hs : listed.size = ops.size) (h : i ∈ Region.ready md ops listed) :
    ∃ o, ops[i]? = some o ∧ lis listed i = false ∧ ∀ e ∈ o.after, Region.binds md e = true → lis listed e.on = true := by
  unfold Region.ready at h
  obtain ⟨h1, h2⟩ := List.mem_filter.1 h
  have hlt := List.mem_range.1 h1
  obtain ⟨h3, h4⟩ := Bool.and_eq_true_iff.1 h2
  rw [Array.getElem?_eq_getElem hlt] at h4
  refine ⟨_, Array.getElem?_eq_getElem hlt, ?_, fun e he hb => ?_⟩
  · unfold lis; rw [Array.getD_eq_getD_getElem?, Array.getElem?_eq_getElem (by omega)]
    rw [Array.getD_eq_getD_getElem?, Array.getElem?_eq_getElem (by omega)] at h3
    simpa using h3
  · simp only [Option.map_some, Option.getD_some] at h4
    have := Array.all_eq_true'.1 h4 e he
    rw [hb, Bool.not_true, Bool.false_or] at this
    exact this
theorem ready_nil {md : Region.Mode} {ops : Array Oper} {listed : Array Bool} (hs : listed.size = ops.size) (hl : lexB ops = true) (h : Region.ready md ops listed = []) : ∀ k, k < ops.size → lis listed k = true := by
  intro k
  induction k using Nat.strongRecOn with
  | _ k ih =>
    intro hk
    cases hb : lis listed k with
    | true => rfl
    | false =>
      exfalso
      have : k ∈ Region.ready md ops listed := by
        unfold Region.ready
        refine List.mem_filter.2 ⟨List.mem_range.2 hk, Bool.and_eq_true_iff.2 ⟨?_, ?_⟩⟩
        · unfold lis at hb
          rw [Array.getD_eq_getD_getElem?, Array.getElem?_eq_getElem (by omega)] at hb ⊢
          simpa using hb
        · rw [Array.getElem?_eq_getElem hk]
          simp only [Option.map_some, Option.getD_some]
          refine Array.all_eq_true'.2 fun e he => ?_
          have h1 := lexB_spec hl (Array.getElem?_eq_getElem hk) e he
          have h2 := ih e.on h1 (by omega)
          unfold lis at h2
          rw [h2, Bool.or_true]
      rw [h] at this
      cases this
def left (listed : Array Bool) : Nat := (listed.toList.filter (fun b => !b)).length
theorem left_set {listed : Array Bool} {i : Nat} (h : i < listed.size) (hf : lis listed i = false) : left (listed.setIfInBounds i true) + 1 = left listed := by
  unfold left lis at *
  rw [Array.getD_eq_getD_getElem?, Array.getElem?_eq_getElem h] at hf
  obtain ⟨l⟩ := listed
  simp only [List.size_toArray] at h
  simp only [List.getElem_toArray, Option.getD_some] at hf
  simp only [List.setIfInBounds_toArray]
  rw [List.set_eq_take_append_cons_drop, if_pos h]
  conv => rhs; rw [← List.take_append_drop i l, List.drop_eq_getElem_cons h, hf]
  simp [List.filter_append, List.filter_cons]
  omega
theorem any_inv {P : Program} {md : Region.Mode} {ops : Array Oper} {Q : Exit → Act → World → Prop} (Inv : (Nat → Bool) → Act → World → Prop) (hl : lexB ops = true)
    (hs : ∀ L a w i o, ops[i]? = some o → L i = false → (∀ e ∈ o.after, Region.binds md e = true → L e.on = true) → Inv L a w → wpOp P ops Q i (Inv (upd L i)) a w)
    (he : ∀ L a w, (∀ k, k < ops.size → L k = true) → Inv L a w → Q .normal a w) :
    ∀ (fuel : Nat) (listed : Array Bool) (a : Act) (w : World), listed.size = ops.size → left listed ≤ fuel → Inv (lis listed) a w → wpAny P md ops Q fuel listed a w := by
  intro fuel
  induction fuel with
  | zero =>
    intro listed a w hn hf h
    have hr : Region.ready md ops listed = [] := by
      rcases hrd : Region.ready md ops listed with _ | ⟨i, r⟩
      · rfl
      · obtain ⟨o, h1, h2, _⟩ := ready_spec hn (show i ∈ Region.ready md ops listed from by rw [hrd]; exact List.mem_cons_self ..)
        have := left_set (by have := (Array.getElem?_eq_some_iff.1 h1).1; omega) h2
        omega
    exact ⟨hr, he _ _ _ (ready_nil hn hl hr) h⟩
  | succ fuel ih =>
    intro listed a w hn hf h
    refine ⟨fun hr => he _ _ _ (ready_nil hn hl hr) h, fun i hi => ?_⟩
    obtain ⟨o, h1, h2, h3⟩ := ready_spec hn hi
    have hlt : i < listed.size := by have := (Array.getElem?_eq_some_iff.1 h1).1; omega
    refine wpOp_mono (fun a' w' h' => ih _ a' w' (by simpa using hn) (by have := left_set hlt h2; omega) ?_) (hs _ _ _ _ _ h1 h2 h3 h)
    rw [lis_upd hlt]
    exact h'
theorem lis_none (n : Nat) : lis (Array.replicate n false) = fun _ => false := by
  funext k; unfold lis
  rw [Array.getD_eq_getD_getElem?, Array.getElem?_replicate]; split <;> rfl
/-- A region that draws its order, by what holds between two operations. -/
theorem region_inv {P : Program} {id : Nat} {ops : Array Oper} {Q : Exit → Act → World → Prop} {a : Act} {w : World} (Inv : (Nat → Bool) → Act → World → Prop) (hm : P.follows .mixedOrders = true) (hl : lexB ops = true)
    (h0 : Inv (fun _ => false) a w.drew)
    (hs : ∀ L a w i o, ops[i]? = some o → L i = false → (∀ e ∈ o.after, Region.binds .any e = true → L e.on = true) → Inv L a w → wpOp P ops Q i (Inv (upd L i)) a w)
    (he : ∀ L a w, (∀ k, k < ops.size → L k = true) → Inv L a w → Q .normal a w) : (Code.region id ops true).wp P Q a w := by
  refine wp_region_any hm (any_inv Inv hl hs he _ _ _ _ (by simp) ?_ ?_)
  · unfold left
    refine Nat.le_trans (List.length_filter_le _ _) (by simp)
  · rw [lis_none]; exact h0
/-- A frame that is another one but for some slots. -/
structure Fr (S : List Nat) (a0 a : Act) : Prop where
  d : a.defers = a0.defers
  n : a.tmps.size = a0.tmps.size
  g : ∀ k, k ∉ S → a.tmps.getD k undef = a0.tmps.getD k undef
theorem Fr.refl (S : List Nat) (a : Act) : Fr S a a := ⟨rfl, rfl, fun _ _ => rfl⟩
theorem put_get {a : Act} {d k : Nat} {v : Value} (h : d < a.tmps.size) : (a.put (some d) v).tmps.getD k undef = if k = d then v else a.tmps.getD k undef := by
  unfold Act.put
  simp only
  rw [Array.getD_eq_getD_getElem?, Array.getElem?_setIfInBounds]
  by_cases hk : d = k
  · subst hk; simp [h]
  · simp [hk, Ne.symm hk, Array.getD_eq_getD_getElem?]
theorem Fr.put {S : List Nat} {a0 a : Act} {d : Nat} (h : Fr S a0 a) (hd : d ∈ S) (v : Value) : Fr S a0 (a.put (some d) v) := by
  refine ⟨h.d, by unfold Act.put; simpa using h.n, fun k hk => ?_⟩
  by_cases hlt : d < a.tmps.size
  · rw [put_get hlt, if_neg (fun e => hk (by rw [e]; exact hd))]; exact h.g k hk
  · unfold Act.put
    simp only
    rw [Array.setIfInBounds_eq_of_size_le (by omega)]; exact h.g k hk
theorem Fr.lit {S : List Nat} {a0 a : Act} (h : Fr S a0 a) : a = ⟨S.foldl (fun t k => t.setIfInBounds k (a.tmps.getD k undef)) a0.tmps, a0.defers⟩ := by
  have key : ∀ (S : List Nat) (t : Array Value), t.size = a.tmps.size → (∀ k, k ∉ S → t.getD k undef = a.tmps.getD k undef) → S.foldl (fun t k => t.setIfInBounds k (a.tmps.getD k undef)) t = a.tmps := by
    intro S
    induction S with
    | nil =>
      intro t hn hg
      show t = a.tmps
      refine Array.ext hn fun i h1 h2 => ?_
      have := hg i (by simp)
      rw [Array.getD_eq_getD_getElem?, Array.getD_eq_getD_getElem?, Array.getElem?_eq_getElem h1, Array.getElem?_eq_getElem h2] at this
      simpa using this
    | cons s S ih =>
      intro t hn hg
      refine ih _ (by simpa using hn) fun k hk => ?_
      rw [Array.getD_eq_getD_getElem?, Array.getElem?_setIfInBounds]
      by_cases hsk : s = k
      · subst hsk
        by_cases hlt : s < t.size
        · simp [hlt]
        · rw [if_pos rfl, if_neg hlt, Array.getD_eq_getD_getElem?, Array.getElem?_eq_none (by omega)]
      · rw [if_neg hsk, ← Array.getD_eq_getD_getElem?]
        exact hg k (by simp [hk, Ne.symm hsk])
  have := key S a0.tmps h.n.symm (fun k hk => (h.g k hk).symm)
  obtain ⟨t, d⟩ := a
  have hd := h.d
  simp only at this hd ⊢
  rw [this, hd]
/-- No piece. -/
def Item.none : Item := ⟨fun _ => False, fun _ => True, fun _ _ => trivial, fun _ h => h.elim⟩
theorem Turn.ofNone {w w' : World} {y : Item} (hb : Below w.heap.size w w') (hy : y.P w') (ho : ∀ k, y.own k → w.heap.size ≤ k) : Turn Item.none w y w' := ⟨hy, Keeps.of_below hb _, fun k hk => .inr (ho k hk)⟩
theorem Turn.toNone {w w' : World} {x : Item} (hk : Keeps x.own w w') : Turn x w Item.none w' := ⟨trivial, hk, fun _ h => h.elim⟩
theorem Turn.get {a x : Item} {w w' : World} {L : List Item} {i : Nat} (h : Turn a w (Item.all L) w') (hi : L[i]? = some x) : x.P w' := Item.all_get h.p (List.mem_of_getElem? hi)
theorem Turn.step {a x y : Item} {w w' w'' : World} {L : List Item} {i : Nat} (h : Turn a w (Item.all L) w') (hi : L[i]? = some x) (t : Turn x w' y w'') : Turn a w (Item.all (L.set i y)) w'' := h.trans (Turn.set h.p hi t)
theorem Turn.more {a y : Item} {w w' w'' : World} {L : List Item} (h : Turn a w (Item.all L) w') (hb : Below w'.heap.size w' w'') (hy : y.P w'') (ho : ∀ k, y.own k → w'.heap.size ≤ k) : Turn a w (Item.all (y :: L)) w'' := h.trans (Turn.new h.p hb hy ho)
theorem Turn.nones {w w' : World} {L : List Item} {x : Item} (h : Turn x w (Item.all L) w') : Turn x w (Item.all (Item.none :: L)) w' := h.trans (Turn.new h.p (Below.refl _ _) trivial (fun _ h => h.elim))
theorem Turn.free {x : Item} {w w' : World} (h : Turn (Item.all []) w x w') : Below w.heap.size w w' := h.k.below (Nat.le_refl _) (fun k hk => by obtain ⟨i, hi, _⟩ := hk; cases hi)
end Go.Proofs.Ytnnladfndmdapaa
