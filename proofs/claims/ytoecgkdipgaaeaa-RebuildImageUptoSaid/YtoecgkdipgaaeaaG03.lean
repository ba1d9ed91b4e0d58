/- Contracts and plain laws that this claim leans on, laid together: Inv, Range, InvIn, RowT, Ent1. -/
import Derived.Test.YtoecgkdipgaaeaaG02
import Derived.RangeFuncWrites
import Derived.RangeFuncBox
import Derived.RangeFuncNested
import Derived.RangeFuncBound
import Derived.RangeFuncCalls
import Derived.RangeFuncLeaves
import Derived.Shelf.Abstract
import Derived.Shelf.RegionOpen
import Derived.OwnWalkIn
import Derived.TacticsInMore
import Derived.LoopNIn
import Derived.LoopIn
import Derived.OrdersIn
import Derived.Test.YtoecgkdipgaaeaaG01
import Derived.Laws.Strings
set_option linter.all false
set_option linter.unusedVariables false
set_option linter.unusedSimpArgs false
set_option linter.unnecessarySimpa false
/- A region that draws its order, by what holds between two of its operations. -/
namespace Go.Proofs.Ytoecgkdipgaaeaa
open Go.RowKit

/-- Each operation names only earlier ones. -/
def lexB (ops : Array Oper) : Bool := (List.range ops.size).all fun i => ((ops[i]?).map fun o => o.after.all fun e => decide (e.on < i)).getD true
theorem lexB_spec {ops : Array Oper} (h : lexB ops = true) {i : Nat} {o : Oper} (hi : ops[i]? = some o) : ∀ e ∈ o.after, e.on < i := by
  have hlt : i < ops.size := (Array.getElem?_eq_some_iff.1 hi).1
  have := List.all_eq_true.1 h i (List.mem_range.2 hlt)
  rw [hi] at this
  intro e he
  simp only [Option.map_some, Option.getD_some] at this
  exact of_decide_eq_true (Array.all_eq_true'.1 this e he)
/-- What is listed. -/
def lis (listed : Array Bool) (k : Nat) : Bool := listed.getD k false
def upd (L : Nat → Bool) (i : Nat) : Nat → Bool := fun k => if k = i then true else L k
theorem lis_upd {listed : Array Bool} {i : Nat} (h : i < listed.size) : lis (listed.setIfInBounds i true) = upd (lis listed) i := by
  funext k
  unfold lis upd
  rw [Array.getD_eq_getD_getElem?, Array.getElem?_setIfInBounds]
  by_cases hk : i = k
  · subst hk; simp [h]
  · simp [hk, Ne.symm hk]
theorem ready_spec {md : Region.Mode} {ops : Array Oper} {listed : Array Bool} {i : Nat} (hs : listed.size = ops.size) (h : i ∈ Region.ready md ops listed) :
    ∃ o, ops[i]? = some o ∧ lis listed i = false ∧ ∀ e ∈ o.after, Region.binds md e = true → lis listed e.on = true := by
  unfold Region.ready at h
  obtain ⟨h1, h2⟩ := List.mem_filter.1 h
  have hlt := List.mem_range.1 h1
  obtain ⟨h3, h4⟩ := Bool.and_eq_true_iff.1 h2
  rw [Array.getElem?_eq_getElem hlt] at h4
  refine ⟨_, Array.getElem?_eq_getElem hlt, ?_, fun e he hb => ?_⟩
  · unfold lis; rw [Array.getD_eq_getD_getElem?, Array.getElem?_eq_getElem (by omega)]
    rw [Array.getD_eq_getD_getElem?, Array.getElem?_eq_getElem (by omega)] at h3
    simpa using h3
  · simp only [Option.map_some, Option.getD_some] at h4
    have := Array.all_eq_true'.1 h4 e he
    rw [hb, Bool.not_true, Bool.false_or] at this
    exact this
theorem ready_nil {md : Region.Mode} {ops : Array Oper} {listed : Array Bool} (hs : listed.size = ops.size) (hl : lexB ops = true) (h : Region.ready md ops listed = []) : ∀ k, k < ops.size → lis listed k = true := by
  intro k
  induction k using Nat.strongRecOn with
  | _ k ih =>
    intro hk
    cases hb : lis listed k with
    | true => rfl
    | false =>
      exfalso
      have : k ∈ Region.ready md ops listed := by
        unfold Region.ready
        refine List.mem_filter.2 ⟨List.mem_range.2 hk, Bool.and_eq_true_iff.2 ⟨?_, ?_⟩⟩
        · unfold lis at hb
          rw [Array.getD_eq_getD_getElem?, Array.getElem?_eq_getElem (by omega)] at hb ⊢
          simpa using hb
        · rw [Array.getElem?_eq_getElem hk]
          simp only [Option.map_some, Option.getD_some]
          refine Array.all_eq_true'.2 fun e he => ?_
          have h1 := lexB_spec hl (Array.getElem?_eq_getElem hk) e he
          have h2 := ih e.on h1 (by omega)
          unfold lis at h2
          rw [h2, Bool.or_true]
      rw [h] at this
      cases this
def left (listed : Array Bool) : Nat := (listed.toList.filter (fun b => !b)).length
theorem left_set {listed : Array Bool} {i : Nat} (h : i < listed.size) (hf : lis listed i = false) : left (listed.setIfInBounds i true) + 1 = left listed := by
  unfold left lis at *
  rw [Array.getD_eq_getD_getElem?, Array.getElem?_eq_getElem h] at hf
  obtain ⟨l⟩ := listed
  simp only [List.size_toArray] at h
  simp only [List.getElem_toArray, Option.getD_some] at hf
  simp only [List.setIfInBounds_toArray]
  rw [List.set_eq_take_append_cons_drop, if_pos h]
  conv => rhs; rw [← List.take_append_drop i l, List.drop_eq_getElem_cons h, hf]
  simp [List.filter_append, List.filter_cons]
  omega
theorem any_inv {P : Program} {md : Region.Mode} {ops : Array Oper} {Q : Exit → Act → World → Prop} (Inv : (Nat → Bool) → Act → World → Prop) (hl : lexB ops = true)
    (hs : ∀ L a w i o, ops[i]? = some o → L i = false → (∀ e ∈ o.after, Region.binds md e = true → L e.on = true) → Inv L a w → wpOp P ops Q i (Inv (upd L i)) a w)
    (he : ∀ L a w, (∀ k, k < ops.size → L k = true) → Inv L a w → Q .normal a w) :
    ∀ (fuel : Nat) (listed : Array Bool) (a : Act) (w : World), listed.size = ops.size → left listed ≤ fuel → Inv (lis listed) a w → wpAny P md ops Q fuel listed a w := by
  intro fuel
  induction fuel with
  | zero =>
    intro listed a w hn hf h
    have hr : Region.ready md ops listed = [] := by
      rcases hrd : Region.ready md ops listed with _ | ⟨i, r⟩
      · rfl
      · obtain ⟨o, h1, h2, _⟩ := ready_spec hn (show i ∈ Region.ready md ops listed from by rw [hrd]; exact List.mem_cons_self ..)
        have := left_set (by have := (Array.getElem?_eq_some_iff.1 h1).1; omega) h2
        omega
    exact ⟨hr, he _ _ _ (ready_nil hn hl hr) h⟩
  | succ fuel ih =>
    intro listed a w hn hf h
    refine ⟨fun hr => he _ _ _ (ready_nil hn hl hr) h, fun i hi => ?_⟩
    obtain ⟨o, h1, h2, h3⟩ := ready_spec hn hi
    have hlt : i < listed.size := by have := (Array.getElem?_eq_some_iff.1 h1).1; omega
    refine wpOp_mono (fun a' w' h' => ih _ a' w' (by simpa using hn) (by have := left_set hlt h2; omega) ?_) (hs _ _ _ _ _ h1 h2 h3 h)
    rw [lis_upd hlt]
    exact h'
theorem lis_none (n : Nat) : lis (Array.replicate n false) = fun _ => false := by
  funext k; unfold lis
  rw [Array.getD_eq_getD_getElem?, Array.getElem?_replicate]; split <;> rfl
/-- A region that draws its order, by what holds between two operations. -/
theorem region_inv {P : Program} {id : Nat} {ops : Array Oper} {Q : Exit → Act → World → Prop} {a : Act} {w : World} (Inv : (Nat → Bool) → Act → World → Prop) (hm : P.follows .mixedOrders = true) (hl : lexB ops = true)
    (h0 : Inv (fun _ => false) a w.drew)
    (hs : ∀ L a w i o, ops[i]? = some o → L i = false → (∀ e ∈ o.after, Region.binds .any e = true → L e.on = true) → Inv L a w → wpOp P ops Q i (Inv (upd L i)) a w)
    (he : ∀ L a w, (∀ k, k < ops.size → L k = true) → Inv L a w → Q .normal a w) : (Code.region id ops true).wp P Q a w := by
  refine wp_region_any hm (any_inv Inv hl hs he _ _ _ _ (by simp) ?_ ?_)
  · unfold left
    refine Nat.le_trans (List.length_filter_le _ _) (by simp)
  · rw [lis_none]; exact h0
/-- A frame that is another one but for some slots. -/
structure Fr (S : List Nat) (a0 a : Act) : Prop where
  d : a.defers = a0.defers
  n : a.tmps.size = a0.tmps.size
  g : ∀ k, k ∉ S → a.tmps.getD k undef = a0.tmps.getD k undef
theorem Fr.refl (S : List Nat) (a : Act) : Fr S a a := ⟨rfl, rfl, fun _ _ => rfl⟩
theorem slot_get {a : Act} {d k : Nat} {v : Value} (h : d < a.tmps.size) : (a.put (some d) v).tmps.getD k undef = if k = d then v else a.tmps.getD k undef := by
  unfold Act.put
  simp only
  rw [Array.getD_eq_getD_getElem?, Array.getElem?_setIfInBounds]
  by_cases hk : d = k
  · subst hk; simp [h]
  · simp [hk, Ne.symm hk, Array.getD_eq_getD_getElem?]
theorem Fr.put {S : List Nat} {a0 a : Act} {d : Nat} (h : Fr S a0 a) (hd : d ∈ S) (v : Value) : Fr S a0 (a.put (some d) v) := by
  refine ⟨h.d, by unfold Act.put; simpa using h.n, fun k hk => ?_⟩
  by_cases hlt : d < a.tmps.size
  · rw [slot_get hlt, if_neg (fun e => hk (by rw [e]; exact hd))]; exact h.g k hk
  · unfold Act.put
    simp only
    rw [Array.setIfInBounds_eq_of_size_le (by omega)]; exact h.g k hk
theorem Fr.lit {S : List Nat} {a0 a : Act} (h : Fr S a0 a) : a = ⟨S.foldl (fun t k => t.setIfInBounds k (a.tmps.getD k undef)) a0.tmps, a0.defers⟩ := by
  have key : ∀ (S : List Nat) (t : Array Value), t.size = a.tmps.size → (∀ k, k ∉ S → t.getD k undef = a.tmps.getD k undef) → S.foldl (fun t k => t.setIfInBounds k (a.tmps.getD k undef)) t = a.tmps := by
    intro S
    induction S with
    | nil =>
      intro t hn hg
      show t = a.tmps
      refine Array.ext hn fun i h1 h2 => ?_
      have := hg i (by simp)
      rw [Array.getD_eq_getD_getElem?, Array.getD_eq_getD_getElem?, Array.getElem?_eq_getElem h1, Array.getElem?_eq_getElem h2] at this
      simpa using this
    | cons s S ih =>
      intro t hn hg
      refine ih _ (by simpa using hn) fun k hk => ?_
      rw [Array.getD_eq_getD_getElem?, Array.getElem?_setIfInBounds]
      by_cases hsk : s = k
      · subst hsk
        by_cases hlt : s < t.size
        · simp [hlt]
        · rw [if_pos rfl, if_neg hlt, Array.getD_eq_getD_getElem?, Array.getElem?_eq_none (by omega)]
      · rw [if_neg hsk, ← Array.getD_eq_getD_getElem?]
        exact hg k (by simp [hk, Ne.symm hsk])
  have := key S a0.tmps h.n.symm (fun k hk => (h.g k hk).symm)
  obtain ⟨t, d⟩ := a
  have hd := h.d
  simp only at this hd ⊢
  rw [this, hd]
/-- No piece. -/
def Item.none : Item := ⟨fun _ => False, fun _ => True, fun _ _ => trivial, fun _ h => h.elim⟩
theorem Turn.ofNone {w w' : World} {y : Item} (hb : Below w.heap.size w w') (hy : y.P w') (ho : ∀ k, y.own k → w.heap.size ≤ k) : Turn Item.none w y w' := ⟨hy, Keeps.of_below hb _, fun k hk => .inr (ho k hk)⟩
theorem Turn.toNone {w w' : World} {x : Item} (hk : Keeps x.own w w') : Turn x w Item.none w' := ⟨trivial, hk, fun _ h => h.elim⟩
theorem Turn.get {a x : Item} {w w' : World} {L : List Item} {i : Nat} (h : Turn a w (Item.all L) w') (hi : L[i]? = some x) : x.P w' := Item.all_get h.p (List.mem_of_getElem? hi)
theorem Turn.step {a x y : Item} {w w' w'' : World} {L : List Item} {i : Nat} (h : Turn a w (Item.all L) w') (hi : L[i]? = some x) (t : Turn x w' y w'') : Turn a w (Item.all (L.set i y)) w'' := h.trans (Turn.set h.p hi t)
theorem Turn.more {a y : Item} {w w' w'' : World} {L : List Item} (h : Turn a w (Item.all L) w') (hb : Below w'.heap.size w' w'') (hy : y.P w'') (ho : ∀ k, y.own k → w'.heap.size ≤ k) : Turn a w (Item.all (y :: L)) w'' := h.trans (Turn.new h.p hb hy ho)
theorem Turn.nones {w w' : World} {L : List Item} {x : Item} (h : Turn x w (Item.all L) w') : Turn x w (Item.all (Item.none :: L)) w' := h.trans (Turn.new h.p (Below.refl _ _) trivial (fun _ h => h.elim))
theorem Turn.free {x : Item} {w w' : World} (h : Turn (Item.all []) w x w') : Below w.heap.size w w' := h.k.below (Nat.le_refl _) (fun k hk => by obtain ⟨i, hi, _⟩ := hk; cases hi)
end Go.Proofs.Ytoecgkdipgaaeaa
/- A range over a function whose rounds may rely on what they are handed: Rd pre x W says what the round knows of x and of what came ahead. -/
namespace Go.Proofs.Ytoecgkdipgaaeaa
open Go.RowKit

section
variable {α : Type} {F : Fence} {n : Nat} {P : Program}
/-- The iterator's contract: at every call of yield it has shown Rd. -/
def SeqRd (F : Fence) (n : Nat) (P : Program) (gf : Nat) (lb : Array Value) (encs : α → Array Value) (Kp : World → World → Prop) (Rd : List α → α → World → Prop) (S Sp : List α → Prop) (w : World) : Prop :=
  ∀ (l : Nat) (J Jx : List α → World → Prop) (W : World), Below w.heap.size w W → AbidesFrom W.heap.size J → AbidesFrom W.heap.size Jx →
    (∀ pre x V, J pre V → Rd pre x V → YieldAt F (n - 1) P l (encs x) V fun e V' => (e = .returned (.bool true) ∧ J (pre ++ [x]) V' ∧ Kp V V') ∨ (e = .returned (.bool false) ∧ Jx (pre ++ [x]) V')) →
    J [] W → CallsIn F n P gf (#[.func (.yield l) #[] #[]] ++ lb) W fun e V => (∃ v, e = .returned v) ∧ ((∃ xs, S xs ∧ J xs V) ∨ (∃ pre, Sp pre ∧ Jx pre V))

variable {g : Operand} {ps : Array Tmp} {assign body : Code} {Q : Exit → Act → World → Prop} {a : Act} {w : World}
theorem range_rd (hro : F.round = none) (h1 : 1 ≤ n) {gf : Nat} {lb : Array Value} (hg : a.eval g = .func (.func gf) #[] lb) (hF : F.fn gf) (eg : ∀ args w, (callFunc gf args).run P w = .ok (.enter gf args) w)
    {encs : α → Array Value} {Kp : World → World → Prop} {Rd : List α → α → World → Prop} {S Sp : List α → Prop} {w0 : World} (hseq : SeqRd F (n - 1) P gf lb encs Kp Rd S Sp w0)
    (hKt : ∀ {A B C : World}, Kp A B → Kp B C → Kp A C) (hKb : ∀ (W : World) (l : Nat) (o o' : Obj), w.heap.size ≤ l → W.heap[l]? = some o → o.isCells = false → o.isWalk = false → Kp W (W.putObj l o'))
    (hRd : ∀ pre, Go.OwnFrom w.heap.size (Rd pre)) (hb0 : Below w0.heap.size w0 w) (hps : ∀ x, (encs x).size = ps.size)
    (I : List α → World → Prop) (Ix : Code → List α → World → Prop) (hI : Go.OwnFrom w.heap.size I) (hIx : ∀ c, Go.OwnFrom w.heap.size (Ix c)) (h0 : I [] w) (a₁ : α → Act)
    (hassign : ∀ (l : Nat) (x : α) (W : World) (K : Act → World → Prop), K (a₁ x) W →
      assign.wpIn (F.inRound l) (n - 1 - 1) P (Exit.then K (fun _ _ _ => False)) { tmps := (ps.zip (encs x)).foldl (fun t (p, v) => t.setIfInBounds p v) a.tmps, defers := [] } W)
    (hbody : ∀ (l : Nat) (pre : List α) (x : α) (W : World), I pre W → Rd pre x W → body.wpIn (F.inRound l) (n - 1 - 1) P (ownPostG w.heap.size Kp I Ix (pre ++ [x]) W) (a₁ x) W)
    (hdone : ∀ (D : Nat) (xs : List α) (W : World), w.heap.size ≤ D → S xs → I xs W → W.heap[D]? = some (.deferred (some [])) → Q .normal { a with defers := { target := .collected D, args := #[] } :: a.defers } W)
    (hstop : ∀ (D : Nat) (c : Code) (pre : List α) (W : World), w.heap.size ≤ D → Sp pre → Ix c pre W → W.heap[D]? = some (.deferred (some [])) → c.wpIn F n P Q { a with defers := { target := .collected D, args := #[] } :: a.defers } W) :
    (Code.rangeFunc g ps assign body).wpIn F n P Q a w := by
  refine wpIn_rangeFunc fun fn hfn => ?_
  rw [hro]
  let rec_ : LoopState → Option Code → Loop := fun st pe => { state := st, pending := pe, fn, tmps := a.tmps, params := ps, assign, body, defers := w.heap.size }
  let W1 := (w.alloc (.deferred (some []))).alloc (.loop (rec_ .ready none))
  have hsz : W1.heap.size = w.heap.size + 2 := by simp [W1]
  have hL1 : W1.heap[w.heap.size + 1]? = some (.loop (rec_ .ready none)) := by
    have := World.alloc_heap_new (w.alloc (.deferred (some []))) (.loop (rec_ .ready none))
    rwa [World.size_alloc] at this
  have hK1 : W1.heap[w.heap.size]? = some (.deferred (some [])) := (Below.heap_alloc _ _ _ (by simp)).trans (World.alloc_heap_new w _)
  have hI1 : I [] W1 := hI.alloc _ (hI.alloc _ h0)
  have hb1 : Below w0.heap.size w0 W1 := hb0.trans ((((Below.refl _ w).alloc (Nat.le_refl _) _).alloc (by simp) _).mono hb0.size)
  -- what the loop itself keeps: its record, its mark
  let BK : LoopState → Option Code → World → Prop := fun st pe W => W.heap[w.heap.size + 1]? = some (.loop (rec_ st pe)) ∧ W.heap[w.heap.size]? = some (.deferred (some []))
  have hBK : ∀ {st pe A B row}, BK st pe A → A.grownBy B row → (∀ r, row = some r → W1.heap.size ≤ r ∧ ∃ o : Obj, A.heap[r]? = some o ∧ o.isWalk = true) → BK st pe B := by
    intro st pe A B row h hg' hr
    have hr' : ∀ r, row = some r → ∃ o : Obj, A.heap[r]? = some o ∧ o.isWalk = true := fun r e => (hr r e).2
    exact ⟨(grownBy_keeps hg' hr' h.1 rfl).trans h.1, (grownBy_keeps hg' hr' h.2 rfl).trans h.2⟩
  have hnw : ∀ {A : World} {row : Option Nat}, (∀ r, row = some r → W1.heap.size ≤ r ∧ ∃ o : Obj, A.heap[r]? = some o ∧ o.isWalk = true) → (∀ r, row = some r → w.heap.size ≤ r ∧ ∃ o : Obj, A.heap[r]? = some o ∧ o.isCells = false) :=
    fun hr r e => by obtain ⟨hB, o, ho, hw⟩ := hr r e; exact ⟨by omega, o, ho, Obj.not_cells_of_walk hw⟩
  refine ⟨w.heap.size + 1, [{ target := .collected w.heap.size, args := #[] }], W1, { target := .fn (.func gf) lb, args := #[.func (.yield (w.heap.size + 1)) #[] #[]] }, W1, gf,
    #[.func (.yield (w.heap.size + 1)) #[] #[]] ++ lb, W1, run_enterLoop_outer _ _ _ _ _, ?_, ?_, ?_, fun _ => h1, ?_⟩
  · simp only [resolve, hg]
    simp [go_sem]
  · intro f' hf'
    simp [Target.leads] at hf'
    subst hf'; exact hF
  · simp [invoke, go_sem, eg]
  refine (hseq (w.heap.size + 1) (fun pre W => I pre W ∧ BK .ready none W) (fun pre W => ∃ c, Ix c pre W ∧ BK .done (some c) W) W1 hb1
    (fun s A B row hs hg' hr => ⟨hI s A B row hs.1 hg' (hnw hr), hBK hs.2 hg' hr⟩)
    (fun s A B row hs hg' hr => by obtain ⟨c, hc, hk⟩ := hs; exact ⟨c, hIx c s A B row hc hg' (hnw hr), hBK hk hg' hr⟩) ?round ⟨hI1, hL1, hK1⟩).mono ?after
  case after =>
    rintro e V ⟨⟨v, rfl⟩, (⟨xs, hS, hi, hl, hk⟩ | ⟨pre, hSp, c, hi, hl, hk⟩)⟩
    · exact ⟨none, _, run_endLoop (P := P) hl (by simp [rec_]), hdone _ xs _ (Nat.le_refl _) hS (hI.putObj _ hi (by omega) hl rfl) ((World.putObj_heap_other (by omega)).trans hk)⟩
    · exact ⟨some c, _, run_endLoop (P := P) hl (by simp [rec_]), hstop _ c pre _ (Nat.le_refl _) hSp ((hIx c).putObj _ hi (by omega) hl rfl) ((World.putObj_heap_other (by omega)).trans hk)⟩
  case round =>
    rintro pre x V ⟨hi, hl, hk⟩ hrd
    have hlt : w.heap.size + 1 < V.heap.size := (Array.getElem?_eq_some_iff.1 hl).1
    refine ⟨fn, _, assign, body, run_yield (P := P) (args := encs x) hl (hps x), roundIn_of_wpIn hfn (hassign _ x V _ ⟨_, run_beginRound hl rfl, ?_⟩)⟩
    let V2 := V.putObj (w.heap.size + 1) (.loop { rec_ .ready none with state := .busy })
    have hl2 : V2.heap[w.heap.size + 1]? = some (.loop { rec_ .ready none with state := .busy }) := World.putObj_heap_same hlt
    have hk2 : V2.heap[w.heap.size]? = some (.deferred (some [])) := (World.putObj_heap_other (by omega)).trans hk
    have hw2 : Kp V V2 := hKb _ _ _ _ (by omega) hl rfl rfl
    have ends : ∀ (jump : Option Code) (V3 : World), KeepsFrom w.heap.size V2 V3 →
        (Instr.endRound (w.heap.size + 1) jump).run P V3 = .ok (.bool jump.isNone) (V3.putObj (w.heap.size + 1) (.loop (rec_ (if jump.isNone then .ready else .done) jump))) ∧
        V3.heap[w.heap.size + 1]? = some (.loop { rec_ .ready none with state := .busy }) ∧ BK (if jump.isNone then .ready else .done) jump (V3.putObj (w.heap.size + 1) (.loop (rec_ (if jump.isNone then .ready else .done) jump))) := by
      intro jump V3 hk3
      have hl3 := hk3.same _ _ (by omega) hl2 rfl
      exact ⟨run_endRound (P := P) jump hl3, hl3, World.putObj_heap_same (Array.getElem?_eq_some_iff.1 hl3).1, (World.putObj_heap_other (by omega)).trans (hk3.same _ _ (Nat.le_refl _) hk2 rfl)⟩
    refine wpIn_mono (hbody _ pre x V2 (hI.putObj _ hi (by omega) hl rfl) ((hRd pre).putObj _ hrd (by omega) hl rfl)) ?_
    have left : ∀ (c : Code) (V3 : World), KeepsFrom w.heap.size V2 V3 → Ix c (pre ++ [x]) V3 →
        ∃ v V4, (Instr.endRound (w.heap.size + 1) (some c)).run P V3 = .ok v V4 ∧ ((Ending.returned v = .returned (.bool true) ∧ (I (pre ++ [x]) V4 ∧ BK .ready none V4) ∧ Kp V V4) ∨ (Ending.returned v = .returned (.bool false) ∧ ∃ c, Ix c (pre ++ [x]) V4 ∧ BK .done (some c) V4)) := by
      intro c V3 hk3 hi3
      obtain ⟨hr, hl3, hb⟩ := ends (some c) V3 hk3
      exact ⟨_, _, hr, .inr ⟨rfl, c, (hIx c).putObj _ hi3 (by omega) hl3 rfl, hb⟩⟩
    rintro e a3 V3 hp
    cases e with
    | normal =>
      obtain ⟨hr, hl3, hb⟩ := ends none V3 hp.1
      exact ⟨_, _, hr, .inl ⟨rfl, ⟨hI.putObj _ hp.2.2 (by omega) hl3 rfl, hb⟩, hKt (hKt hw2 hp.2.1) (hKb _ _ _ _ (by omega) hl3 rfl rfl)⟩⟩
    | ret => exact left .ret V3 hp.1 hp.2
    | exit id => exact left (.exit id) V3 hp.1 hp.2
    | goto t => exact left (.goto t) V3 hp.1 hp.2
    | panic ch => exact hp.elim
    | outgrown => exact hp.elim
end
end Go.Proofs.Ytoecgkdipgaaeaa
/- A region that draws its order, in a round of a range over a function, by what holds between two of its operations. -/
namespace Go.Proofs.Ytoecgkdipgaaeaa
open Go.RowKit

theorem anyIn_inv {F : Fence} {n : Nat} {P : Program} {md : Region.Mode} {ops : Array Oper} {Q : Exit → Act → World → Prop} (Inv : (Nat → Bool) → Act → World → Prop) (hl : lexB ops = true)
    (hs : ∀ L a w i o, ops[i]? = some o → L i = false → (∀ e ∈ o.after, Region.binds md e = true → L e.on = true) → Inv L a w → wpOpIn F n P ops Q i (Inv (upd L i)) a w)
    (he : ∀ L a w, (∀ k, k < ops.size → L k = true) → Inv L a w → Q .normal a w) :
    ∀ (fuel : Nat) (listed : Array Bool) (a : Act) (w : World), listed.size = ops.size → left listed ≤ fuel → Inv (lis listed) a w → wpAnyIn F n P md ops Q fuel listed a w := by
  intro fuel
  induction fuel with
  | zero =>
    intro listed a w hn hf h
    have hr : Region.ready md ops listed = [] := by
      rcases hrd : Region.ready md ops listed with _ | ⟨i, r⟩
      · rfl
      · obtain ⟨o, h1, h2, _⟩ := ready_spec hn (show i ∈ Region.ready md ops listed from by rw [hrd]; exact List.mem_cons_self ..)
        have := left_set (by have := (Array.getElem?_eq_some_iff.1 h1).1; omega) h2
        omega
    exact ⟨hr, he _ _ _ (ready_nil hn hl hr) h⟩
  | succ fuel ih =>
    intro listed a w hn hf h
    refine ⟨fun hr => he _ _ _ (ready_nil hn hl hr) h, fun i hi => ?_⟩
    obtain ⟨o, h1, h2, h3⟩ := ready_spec hn hi
    have hlt : i < listed.size := by have := (Array.getElem?_eq_some_iff.1 h1).1; omega
    refine wpOpIn_mono (fun a' w' h' => ih _ a' w' (by simpa using hn) (by have := left_set hlt h2; omega) ?_) (hs _ _ _ _ _ h1 h2 h3 h)
    rw [lis_upd hlt]
    exact h'
theorem regionIn_inv {F : Fence} {n : Nat} {P : Program} {id : Nat} {ops : Array Oper} {Q : Exit → Act → World → Prop} {a : Act} {w : World} (Inv : (Nat → Bool) → Act → World → Prop) (hm : P.follows .mixedOrders = true) (hl : lexB ops = true)
    (h0 : Inv (fun _ => false) a w.drew)
    (hs : ∀ L a w i o, ops[i]? = some o → L i = false → (∀ e ∈ o.after, Region.binds .any e = true → L e.on = true) → Inv L a w → wpOpIn F n P ops Q i (Inv (upd L i)) a w)
    (he : ∀ L a w, (∀ k, k < ops.size → L k = true) → Inv L a w → Q .normal a w) : (Code.region id ops true).wpIn F n P Q a w := by
  refine wpIn_region_any hm (anyIn_inv Inv hl hs he _ _ _ _ (by simp) ?_ ?_)
  · unfold left
    refine Nat.le_trans (List.length_filter_le _ _) (by simp)
  · rw [lis_none]; exact h0
end Go.Proofs.Ytoecgkdipgaaeaa
/- Rows of any elements: pieces of memory, and append onto them. -/
namespace Go.Proofs.Ytoecgkdipgaaeaa
open Go.RowKit

section
variable {w w' : World} {base base' n n' size : Nat} {e : TypeId} {v v' : Value} {xs xs' : List Value}
theorem rowT_keep (h : w.ownsRow base e size v n xs) (hk : ∀ k, v.ownBlock = some k → w'.heap[k]? = w.heap[k]?) : w'.ownsRow base e size v n xs := by
  refine ⟨h.1, ?_⟩
  rcases h.2 with h2 | ⟨g, cap, cur, hv, hb, hh, r⟩
  · exact .inl h2
  · exact .inr ⟨g, cap, cur, hv, hb, (hk g (by rw [hv]; rfl)).trans hh, r⟩
theorem rowT_less (h : w.ownsRow base e size v n xs) (hb : base' ≤ base) : w.ownsRow base' e size v n xs := by
  refine ⟨h.1, ?_⟩
  rcases h.2 with h2 | ⟨g, cap, cur, hv, hg, r⟩
  · exact .inl h2
  · exact .inr ⟨g, cap, cur, hv, Nat.le_trans hb hg, r⟩
theorem rowT_lt (h : w.ownsRow base e size v n xs) {k : Nat} (hk : v.ownBlock = some k) : base ≤ k ∧ k < w.heap.size := by
  rcases h.2 with ⟨h2, _⟩ | ⟨g, cap, cur, hv, hg, hh, r⟩
  · rw [h2] at hk; cases hk
  · rw [hv] at hk
    injection hk with hk
    subst hk
    exact ⟨hg, (Array.getElem?_eq_some_iff.1 hh).1⟩
def Item.rowT (e : TypeId) (size : Nat) (v : Value) (n : Nat) (xs : List Value) : Item where
  own := fun k => v.ownBlock = some k
  P := fun w => w.ownsRow 0 e size v n xs
  keep := fun h hk => rowT_keep h hk
  lt := fun h hk => (rowT_lt h hk).2
theorem Turn.rowT (ho : w'.ownsRow 0 e size v' n' xs') (hg : w.grownBy w' v.ownBlock) (hf : v'.ownBlock = v.ownBlock ∨ v'.ownBlock = some w.heap.size) : Turn (Item.rowT e size v n xs) w (Item.rowT e size v' n' xs') w' :=
  ⟨ho, (Keeps.of_grown hg).mono (fun i hi => .inl hi.symm), fun k hk => by
    rcases hf with h | h
    · exact .inl (h.symm.trans hk)
    · have hk' : v'.ownBlock = some k := hk
      rw [h] at hk'; injection hk' with hk'; exact .inr (by omega)⟩
end
theorem wpIn_append_any {P : Program} {F : Fence} {N : Nat} {w : World} {o : Oper} {a : Act} {K : Act → World → Prop} {Q : Exit → Act → World → Prop} {s xo : Operand} {t tx : TypeId}
    (ho : o.op = .call { callee := .builtin .append, args := #[s, xo], argTypes := #[t, tx] })
    (base : Nat) {e : TypeId} {z : Value} {size bytes : Nat} (ht : P.underlying t = some (.slice e)) (hinfo : (P.info? e).map (fun i => (i.zero, i.size, i.bytes)) = some (some z, size, bytes))
    (hzs : z.cells.size = size) (hsz : 0 < size) (hb0 : 0 < bytes)
    {v : Value} {n : Nat} {xs : List Value} (hs : a.eval s = v) (hown : w.ownsRow base e size v n xs)
    {x : Value} {m : Nat} {news : List Value} (hx : a.eval xo = x) (hsrc : Src P size tx x m news w)
    (hbytes : (n + m) * bytes ≤ 140737488355328) (hbase : base ≤ w.heap.size)
    (h : ∀ v' w', w'.ownsRow base e size v' (n + m) (xs ++ news) → w.grownBy w' v.ownBlock → (v'.ownBlock = v.ownBlock ∨ v'.ownBlock = some w.heap.size) → K (a.put o.dst v') w') : o.wpIn F N P a w K Q := by
  obtain ⟨i, hi, hz, h4, h5⟩ := info_parts hinfo
  obtain ⟨v', w', hr, h2, h3, h4⟩ := run_append_any (P := P) w base t tx o.type e i z size bytes ht hi hz h4 h5 hzs hsz v n xs hown x m news hsrc hbytes hb0 hbase
  unfold Oper.wpIn
  refine ⟨?_, ?_⟩
  · simp [Oper.about, ho, resolve, Target.leads, Sem.run_pure]
  · rw [Oper.semAt_eq _ _ _ (by rw [ho]; intro c hc; cases hc)]
    unfold execOp
    simp only [ho, resolve, invoke, builtin, Sem.run_bind, Sem.run_pure, Result.andThen_ok, List.map_toArray, List.map_cons, List.map_nil, hs, hx, hr]
    exact h v' w' h2 h3 h4
end Go.Proofs.Ytoecgkdipgaaeaa
/- Entries: how they lie in memory; fields and Check of package entry. -/
namespace Go.Proofs.Ytoecgkdipgaaeaa
open Go.RowKit

/-- An entry. -/
structure En where
  kind : Int
  stamp : Int
  count : Int
  key : ByteArray
  value : List UInt8
  dead : Bool
def En.cells (e : En) (A : Option Addr) (c : Nat) : Array Value := #[.int .i64 e.kind, .int .i64 e.stamp, .int .i64 e.count, .string e.key, .slice A e.value.length c, .bool e.dead]
/-- An entry may be. -/
def En.may (e : En) : Prop :=
  if e.kind = 1 then 1 ≤ e.key.size ∧ e.key.size ≤ 255 ∧ e.stamp = 0 ∧ e.count = 0 ∧ e.dead = false ∧ e.value.length ≤ 4096
  else if e.kind = 2 then 1 ≤ e.key.size ∧ e.key.size ≤ 255 ∧ e.stamp = 0 ∧ e.count = 0 ∧ e.dead = false ∧ e.value.length = 0
  else if e.kind = 3 ∨ e.kind = 4 ∨ e.kind = 6 then e.key.size = 0 ∧ 0 ≤ e.stamp ∧ e.stamp ≤ 4611686018427387904 ∧ 0 ≤ e.count ∧ e.count ≤ 2147483647 ∧ e.dead = false ∧ e.value.length = 0
  else if e.kind = 5 then 1 ≤ e.key.size ∧ e.key.size ≤ 255 ∧ 0 ≤ e.stamp ∧ e.stamp ≤ 4611686018427387904 ∧ e.count = 0 ∧ e.value.length ≤ 4096 ∧ (e.dead = true → e.value.length = 0)
  else False
open Classical in
noncomputable def En.chk (e : En) : Int := if e.may then 0 else 100
theorem En.chk_ok {e : En} (h : e.may) : e.chk = 0 := if_pos h
theorem En.chk_no {e : En} (h : ¬ e.may) : e.chk = 100 := if_neg h

/-- The fields that count of a kind, as bits. -/
def fieldsF (k : Int) : Int := if k = 1 then 17 else if k = 2 then 1 else if k = 3 ∨ k = 4 ∨ k = 6 then 6 else if k = 5 then 27 else 0
theorem fields_any {w : World} (k : Int) : Calls Try.prog 101 #[.int .i64 k] w fun e w' => e = .returned (.int .i64 (fieldsF k)) ∧ w = w' := by
  by_cases h1 : k = 1
  · subst h1
    go_enter Try.func101, Try.ntmps101
    go_wp2
    go_ret
    exact ⟨rfl, rfl⟩
  by_cases h2 : k = 2
  · subst h2
    go_enter Try.func101, Try.ntmps101
    go_wp2
    go_ret
    exact ⟨rfl, rfl⟩
  by_cases h3 : k = 3
  · subst h3
    go_enter Try.func101, Try.ntmps101
    go_wp2
    go_ret
    exact ⟨rfl, rfl⟩
  by_cases h4 : k = 4
  · subst h4
    go_enter Try.func101, Try.ntmps101
    go_wp2
    go_ret
    exact ⟨rfl, rfl⟩
  by_cases h6 : k = 6
  · subst h6
    go_enter Try.func101, Try.ntmps101
    go_wp2
    go_ret
    exact ⟨rfl, rfl⟩
  by_cases h5 : k = 5
  · subst h5
    go_enter Try.func101, Try.ntmps101
    go_wp2
    go_ret
    exact ⟨rfl, rfl⟩
  have HE := Lib.hid (show fieldsF k = 0 from by unfold fieldsF; rw [if_neg h1, if_neg h2, if_neg (by omega), if_neg h5])
  have k1 : (k == 1) = false := by rw [beq_eq_false_iff_ne]; exact h1
  have k2 : (k == 2) = false := by rw [beq_eq_false_iff_ne]; exact h2
  have k3 : (k == 3) = false := by rw [beq_eq_false_iff_ne]; exact h3
  have k4 : (k == 4) = false := by rw [beq_eq_false_iff_ne]; exact h4
  have k5 : (k == 5) = false := by rw [beq_eq_false_iff_ne]; exact h5
  have k6 : (k == 6) = false := by rw [beq_eq_false_iff_ne]; exact h6
  clear h1 h2 h3 h4 h5 h6
  go_enter Try.func101, Try.ntmps101
  go_wp2
  go_ret
  exact ⟨by rw [HE.out]; rfl, rfl⟩
theorem may_1 {s n : Int} {key : ByteArray} {v : List UInt8} {d : Bool} : En.may ⟨1, s, n, key, v, d⟩ = (1 ≤ key.size ∧ key.size ≤ 255 ∧ s = 0 ∧ n = 0 ∧ d = false ∧ v.length ≤ 4096) := if_pos rfl
theorem may_2 {s n : Int} {key : ByteArray} {v : List UInt8} {d : Bool} : En.may ⟨2, s, n, key, v, d⟩ = (1 ≤ key.size ∧ key.size ≤ 255 ∧ s = 0 ∧ n = 0 ∧ d = false ∧ v.length = 0) := (if_neg (by show ¬ ((2 : Int) = 1); decide)).trans (if_pos rfl)
theorem may_m {k s n : Int} {key : ByteArray} {v : List UInt8} {d : Bool} (hk : k = 3 ∨ k = 4 ∨ k = 6) : En.may ⟨k, s, n, key, v, d⟩ = (key.size = 0 ∧ 0 ≤ s ∧ s ≤ 4611686018427387904 ∧ 0 ≤ n ∧ n ≤ 2147483647 ∧ d = false ∧ v.length = 0) :=
  (if_neg (by show ¬ k = 1; omega)).trans ((if_neg (by show ¬ k = 2; omega)).trans (if_pos hk))
theorem may_5 {s n : Int} {key : ByteArray} {v : List UInt8} {d : Bool} : En.may ⟨5, s, n, key, v, d⟩ = (1 ≤ key.size ∧ key.size ≤ 255 ∧ 0 ≤ s ∧ s ≤ 4611686018427387904 ∧ n = 0 ∧ v.length ≤ 4096 ∧ (d = true → v.length = 0)) :=
  (if_neg (by show ¬ ((5 : Int) = 1); decide)).trans ((if_neg (by show ¬ ((5 : Int) = 2); decide)).trans ((if_neg (by show ¬ ((5 : Int) = 3 ∨ (5 : Int) = 4 ∨ (5 : Int) = 6); decide)).trans (if_pos rfl)))
theorem may_x {k s n : Int} {key : ByteArray} {v : List UInt8} {d : Bool} (h : ¬ (1 ≤ k ∧ k ≤ 6)) : ¬ En.may ⟨k, s, n, key, v, d⟩ := by
  unfold En.may
  simp only
  rw [if_neg (by omega), if_neg (by omega), if_neg (by omega), if_neg (by omega)]
  exact id
theorem str_empty {s : ByteArray} (h : s.size = 0) : s = ⟨#[]⟩ := by
  cases s with | mk d => rw [Array.eq_empty_of_size_eq_zero h]
theorem str_ne {s : ByteArray} (h : ¬ s.size = 0) : s.toList.isEmpty = false ∧ (s.toList == []) = false ∧ (s.toList != []) = true := by
  have h2 : s.toList ≠ [] := by
    rw [ByteArray.toList_eq]
    intro e
    have := congrArg List.length e
    rw [Array.length_toList] at this
    exact h this
  cases hl : s.toList with
  | nil => exact absurd hl h2
  | cons a r => exact ⟨rfl, rfl, rfl⟩
theorem and_17_1 : bits .and .i64 17 1 = 1 := by decide
theorem and_17_2 : bits .and .i64 17 2 = 0 := by decide
theorem and_17_4 : bits .and .i64 17 4 = 0 := by decide
theorem and_17_8 : bits .and .i64 17 8 = 0 := by decide
theorem and_17_16 : bits .and .i64 17 16 = 16 := by decide
theorem and_1_1 : bits .and .i64 1 1 = 1 := by decide
theorem and_1_2 : bits .and .i64 1 2 = 0 := by decide
theorem and_1_4 : bits .and .i64 1 4 = 0 := by decide
theorem and_1_8 : bits .and .i64 1 8 = 0 := by decide
theorem and_1_16 : bits .and .i64 1 16 = 0 := by decide
theorem and_6_1 : bits .and .i64 6 1 = 0 := by decide
theorem and_6_2 : bits .and .i64 6 2 = 2 := by decide
theorem and_6_4 : bits .and .i64 6 4 = 4 := by decide
theorem and_6_8 : bits .and .i64 6 8 = 0 := by decide
theorem and_6_16 : bits .and .i64 6 16 = 0 := by decide
theorem and_27_1 : bits .and .i64 27 1 = 1 := by decide
theorem and_27_2 : bits .and .i64 27 2 = 2 := by decide
theorem and_27_4 : bits .and .i64 27 4 = 0 := by decide
theorem and_27_8 : bits .and .i64 27 8 = 8 := by decide
theorem and_27_16 : bits .and .i64 27 16 = 16 := by decide
set_option maxRecDepth 100000 in
set_option maxHeartbeats 3200000 in
theorem check_1 {w : World} {A : Option Addr} {c : Nat} (s n : Int) (key : ByteArray) (v : List UInt8) (d : Bool) (hks : key.size ≤ 140737488355328) (hvl : v.length ≤ 140737488355328) :
    Calls Try.prog 81 #[.agg (En.cells ⟨1, s, n, key, v, d⟩ A c)] w fun e w' => e = .returned (.int .i64 (En.chk ⟨1, s, n, key, v, d⟩)) ∧ Below w.heap.size w w' := by
  unfold En.cells
  simp only
  by_cases hc : 1 ≤ key.size
  · have hK1 : (1 : Int) ≤ key.size := by omega
    clear hc
    by_cases hc : key.size ≤ 255
    · have hK2 : (key.size : Int) ≤ 255 := by omega
      clear hc
      by_cases hc : s = 0
      · subst hc
        by_cases hc : n = 0
        · subst hc
          by_cases hc : d = false
          · subst hc
            by_cases hc : v.length ≤ 4096
            · have hV4 : (v.length : Int) ≤ 4096 := by omega
              clear hc
              have HE := Lib.hid (show En.chk ⟨1, 0, 0, key, v, false⟩ = 0 from En.chk_ok (by rw [may_1]; exact ⟨by omega, by omega, rfl, rfl, rfl, by omega⟩))
              have b1 := and_17_1
              have b2 := and_17_2
              have b4 := and_17_4
              have b8 := and_17_8
              have b16 := and_17_16
              go_enter Try.func81, Try.ntmps81
              go_wp2_with fail
              refine (fields_any 1).mono ?_
              rintro e w1 ⟨rfl, rfl⟩
              rw [show fieldsF 1 = 17 from rfl]
              go_wp2
              all_goals go_ret
              all_goals exact ⟨by rw [HE.out]; rfl, (Below.refl _ _).alloc (Nat.le_refl _) _⟩
            · have hV4 : (4096 : Int) < v.length := by omega
              have HE := Lib.hid (show En.chk ⟨1, 0, 0, key, v, false⟩ = 100 from En.chk_no (by rw [may_1]; rintro ⟨q0, q1, q2, q3, q4, q5⟩; omega))
              clear hc
              have b1 := and_17_1
              have b2 := and_17_2
              have b4 := and_17_4
              have b8 := and_17_8
              have b16 := and_17_16
              go_enter Try.func81, Try.ntmps81
              go_wp2_with fail
              refine (fields_any 1).mono ?_
              rintro e w1 ⟨rfl, rfl⟩
              rw [show fieldsF 1 = 17 from rfl]
              go_wp2
              all_goals go_ret
              all_goals exact ⟨by rw [HE.out]; rfl, (Below.refl _ _).alloc (Nat.le_refl _) _⟩
          · obtain rfl : d = true := by cases d <;> simp_all
            have HE := Lib.hid (show En.chk ⟨1, 0, 0, key, v, true⟩ = 100 from En.chk_no (by rw [may_1]; rintro ⟨q0, q1, q2, q3, q4, q5⟩; cases q4))
            have b1 := and_17_1
            have b2 := and_17_2
            have b4 := and_17_4
            have b8 := and_17_8
            have b16 := and_17_16
            go_enter Try.func81, Try.ntmps81
            go_wp2_with fail
            refine (fields_any 1).mono ?_
            rintro e w1 ⟨rfl, rfl⟩
            rw [show fieldsF 1 = 17 from rfl]
            go_wp2
            all_goals go_ret
            all_goals exact ⟨by rw [HE.out]; rfl, (Below.refl _ _).alloc (Nat.le_refl _) _⟩
        · have hN0 : (n != 0) = true := by rw [bne_iff_ne]; exact hc
          have hN0b : (n == 0) = false := by rw [beq_eq_false_iff_ne]; exact hc
          have HE := Lib.hid (show En.chk ⟨1, 0, n, key, v, d⟩ = 100 from En.chk_no (by rw [may_1]; rintro ⟨q0, q1, q2, q3, q4, q5⟩; exact hc q3))
          clear hc
          have b1 := and_17_1
          have b2 := and_17_2
          have b4 := and_17_4
          have b8 := and_17_8
          have b16 := and_17_16
          go_enter Try.func81, Try.ntmps81
          go_wp2_with fail
          refine (fields_any 1).mono ?_
          rintro e w1 ⟨rfl, rfl⟩
          rw [show fieldsF 1 = 17 from rfl]
          go_wp2
          all_goals go_ret
          all_goals exact ⟨by rw [HE.out]; rfl, (Below.refl _ _).alloc (Nat.le_refl _) _⟩
      · have hS0 : (s != 0) = true := by rw [bne_iff_ne]; exact hc
        have hS0b : (s == 0) = false := by rw [beq_eq_false_iff_ne]; exact hc
        have HE := Lib.hid (show En.chk ⟨1, s, n, key, v, d⟩ = 100 from En.chk_no (by rw [may_1]; rintro ⟨q0, q1, q2, q3, q4, q5⟩; exact hc q2))
        clear hc
        have b1 := and_17_1
        have b2 := and_17_2
        have b4 := and_17_4
        have b8 := and_17_8
        have b16 := and_17_16
        go_enter Try.func81, Try.ntmps81
        go_wp2_with fail
        refine (fields_any 1).mono ?_
        rintro e w1 ⟨rfl, rfl⟩
        rw [show fieldsF 1 = 17 from rfl]
        go_wp2
        all_goals go_ret
        all_goals exact ⟨by rw [HE.out]; rfl, (Below.refl _ _).alloc (Nat.le_refl _) _⟩
    · have hK2 : (255 : Int) < key.size := by omega
      have hK2b : decide ((key.size : Int) ≤ 255) = false := decide_eq_false (by omega)
      have HE := Lib.hid (show En.chk ⟨1, s, n, key, v, d⟩ = 100 from En.chk_no (by rw [may_1]; rintro ⟨q0, q1, q2, q3, q4, q5⟩; omega))
      clear hc
      have b1 := and_17_1
      have b2 := and_17_2
      have b4 := and_17_4
      have b8 := and_17_8
      have b16 := and_17_16
      go_enter Try.func81, Try.ntmps81
      go_wp2_with fail
      refine (fields_any 1).mono ?_
      rintro e w1 ⟨rfl, rfl⟩
      rw [show fieldsF 1 = 17 from rfl]
      go_wp2
      all_goals go_ret
      all_goals exact ⟨by rw [HE.out]; rfl, (Below.refl _ _).alloc (Nat.le_refl _) _⟩
  · have hK1 : (key.size : Int) < 1 := by omega
    have HE := Lib.hid (show En.chk ⟨1, s, n, key, v, d⟩ = 100 from En.chk_no (by rw [may_1]; rintro ⟨q0, q1, q2, q3, q4, q5⟩; omega))
    clear hc
    have b1 := and_17_1
    have b2 := and_17_2
    have b4 := and_17_4
    have b8 := and_17_8
    have b16 := and_17_16
    go_enter Try.func81, Try.ntmps81
    go_wp2_with fail
    refine (fields_any 1).mono ?_
    rintro e w1 ⟨rfl, rfl⟩
    rw [show fieldsF 1 = 17 from rfl]
    go_wp2
    all_goals go_ret
    all_goals exact ⟨by rw [HE.out]; rfl, (Below.refl _ _).alloc (Nat.le_refl _) _⟩
set_option maxRecDepth 100000 in
set_option maxHeartbeats 3200000 in
theorem check_2 {w : World} {A : Option Addr} {c : Nat} (s n : Int) (key : ByteArray) (v : List UInt8) (d : Bool) (hks : key.size ≤ 140737488355328) (hvl : v.length ≤ 140737488355328) :
    Calls Try.prog 81 #[.agg (En.cells ⟨2, s, n, key, v, d⟩ A c)] w fun e w' => e = .returned (.int .i64 (En.chk ⟨2, s, n, key, v, d⟩)) ∧ Below w.heap.size w w' := by
  unfold En.cells
  simp only
  by_cases hc : 1 ≤ key.size
  · have hK1 : (1 : Int) ≤ key.size := by omega
    clear hc
    by_cases hc : key.size ≤ 255
    · have hK2 : (key.size : Int) ≤ 255 := by omega
      clear hc
      by_cases hc : s = 0
      · subst hc
        by_cases hc : n = 0
        · subst hc
          by_cases hc : d = false
          · subst hc
            by_cases hc : v.length = 0
            · obtain rfl := List.eq_nil_of_length_eq_zero hc
              have HE := Lib.hid (show En.chk ⟨2, 0, 0, key, [], false⟩ = 0 from En.chk_ok (by rw [may_2]; exact ⟨by omega, by omega, rfl, rfl, rfl, rfl⟩))
              have b1 := and_1_1
              have b2 := and_1_2
              have b4 := and_1_4
              have b8 := and_1_8
              have b16 := and_1_16
              go_enter Try.func81, Try.ntmps81
              go_wp2_with fail
              refine (fields_any 2).mono ?_
              rintro e w1 ⟨rfl, rfl⟩
              rw [show fieldsF 2 = 1 from rfl]
              go_wp2
              all_goals go_ret
              all_goals exact ⟨by rw [HE.out]; rfl, (Below.refl _ _).alloc (Nat.le_refl _) _⟩
            · have hV0 : (0 : Int) < v.length := by omega
              have HE := Lib.hid (show En.chk ⟨2, 0, 0, key, v, false⟩ = 100 from En.chk_no (by rw [may_2]; rintro ⟨q0, q1, q2, q3, q4, q5⟩; omega))
              clear hc
              have b1 := and_1_1
              have b2 := and_1_2
              have b4 := and_1_4
              have b8 := and_1_8
              have b16 := and_1_16
              go_enter Try.func81, Try.ntmps81
              go_wp2_with fail
              refine (fields_any 2).mono ?_
              rintro e w1 ⟨rfl, rfl⟩
              rw [show fieldsF 2 = 1 from rfl]
              go_wp2
              all_goals go_ret
              all_goals exact ⟨by rw [HE.out]; rfl, (Below.refl _ _).alloc (Nat.le_refl _) _⟩
          · obtain rfl : d = true := by cases d <;> simp_all
            have HE := Lib.hid (show En.chk ⟨2, 0, 0, key, v, true⟩ = 100 from En.chk_no (by rw [may_2]; rintro ⟨q0, q1, q2, q3, q4, q5⟩; cases q4))
            have b1 := and_1_1
            have b2 := and_1_2
            have b4 := and_1_4
            have b8 := and_1_8
            have b16 := and_1_16
            go_enter Try.func81, Try.ntmps81
            go_wp2_with fail
            refine (fields_any 2).mono ?_
            rintro e w1 ⟨rfl, rfl⟩
            rw [show fieldsF 2 = 1 from rfl]
            go_wp2
            all_goals go_ret
            all_goals exact ⟨by rw [HE.out]; rfl, (Below.refl _ _).alloc (Nat.le_refl _) _⟩
        · have hN0 : (n != 0) = true := by rw [bne_iff_ne]; exact hc
          have hN0b : (n == 0) = false := by rw [beq_eq_false_iff_ne]; exact hc
          have HE := Lib.hid (show En.chk ⟨2, 0, n, key, v, d⟩ = 100 from En.chk_no (by rw [may_2]; rintro ⟨q0, q1, q2, q3, q4, q5⟩; exact hc q3))
          clear hc
          have b1 := and_1_1
          have b2 := and_1_2
          have b4 := and_1_4
          have b8 := and_1_8
          have b16 := and_1_16
          go_enter Try.func81, Try.ntmps81
          go_wp2_with fail
          refine (fields_any 2).mono ?_
          rintro e w1 ⟨rfl, rfl⟩
          rw [show fieldsF 2 = 1 from rfl]
          go_wp2
          all_goals go_ret
          all_goals exact ⟨by rw [HE.out]; rfl, (Below.refl _ _).alloc (Nat.le_refl _) _⟩
      · have hS0 : (s != 0) = true := by rw [bne_iff_ne]; exact hc
        have hS0b : (s == 0) = false := by rw [beq_eq_false_iff_ne]; exact hc
        have HE := Lib.hid (show En.chk ⟨2, s, n, key, v, d⟩ = 100 from En.chk_no (by rw [may_2]; rintro ⟨q0, q1, q2, q3, q4, q5⟩; exact hc q2))
        clear hc
        have b1 := and_1_1
        have b2 := and_1_2
        have b4 := and_1_4
        have b8 := and_1_8
        have b16 := and_1_16
        go_enter Try.func81, Try.ntmps81
        go_wp2_with fail
        refine (fields_any 2).mono ?_
        rintro e w1 ⟨rfl, rfl⟩
        rw [show fieldsF 2 = 1 from rfl]
        go_wp2
        all_goals go_ret
        all_goals exact ⟨by rw [HE.out]; rfl, (Below.refl _ _).alloc (Nat.le_refl _) _⟩
    · have hK2 : (255 : Int) < key.size := by omega
      have hK2b : decide ((key.size : Int) ≤ 255) = false := decide_eq_false (by omega)
      have HE := Lib.hid (show En.chk ⟨2, s, n, key, v, d⟩ = 100 from En.chk_no (by rw [may_2]; rintro ⟨q0, q1, q2, q3, q4, q5⟩; omega))
      clear hc
      have b1 := and_1_1
      have b2 := and_1_2
      have b4 := and_1_4
      have b8 := and_1_8
      have b16 := and_1_16
      go_enter Try.func81, Try.ntmps81
      go_wp2_with fail
      refine (fields_any 2).mono ?_
      rintro e w1 ⟨rfl, rfl⟩
      rw [show fieldsF 2 = 1 from rfl]
      go_wp2
      all_goals go_ret
      all_goals exact ⟨by rw [HE.out]; rfl, (Below.refl _ _).alloc (Nat.le_refl _) _⟩
  · have hK1 : (key.size : Int) < 1 := by omega
    have HE := Lib.hid (show En.chk ⟨2, s, n, key, v, d⟩ = 100 from En.chk_no (by rw [may_2]; rintro ⟨q0, q1, q2, q3, q4, q5⟩; omega))
    clear hc
    have b1 := and_1_1
    have b2 := and_1_2
    have b4 := and_1_4
    have b8 := and_1_8
    have b16 := and_1_16
    go_enter Try.func81, Try.ntmps81
    go_wp2_with fail
    refine (fields_any 2).mono ?_
    rintro e w1 ⟨rfl, rfl⟩
    rw [show fieldsF 2 = 1 from rfl]
    go_wp2
    all_goals go_ret
    all_goals exact ⟨by rw [HE.out]; rfl, (Below.refl _ _).alloc (Nat.le_refl _) _⟩
set_option maxRecDepth 100000 in
set_option maxHeartbeats 3200000 in
theorem check_m {w : World} {A : Option Addr} {c : Nat} (k : Int) (hm : k = 3 ∨ k = 4 ∨ k = 6) (s n : Int) (key : ByteArray) (v : List UInt8) (d : Bool) (hks : key.size ≤ 140737488355328) (hvl : v.length ≤ 140737488355328) :
    Calls Try.prog 81 #[.agg (En.cells ⟨k, s, n, key, v, d⟩ A c)] w fun e w' => e = .returned (.int .i64 (En.chk ⟨k, s, n, key, v, d⟩)) ∧ Below w.heap.size w w' := by
  unfold En.cells
  simp only
  have HF := Lib.hid (show fieldsF k = 6 from by unfold fieldsF; rw [if_neg (by omega), if_neg (by omega), if_pos hm])
  by_cases hc : key.size = 0
  · obtain rfl := str_empty hc
    by_cases hc : 0 ≤ s
    · have hS1 : 0 ≤ s := hc
      clear hc
      by_cases hc : s ≤ 4611686018427387904
      · have hS2 : s ≤ 4611686018427387904 := hc
        clear hc
        by_cases hc : 0 ≤ n
        · have hN1 : 0 ≤ n := hc
          clear hc
          by_cases hc : n ≤ 2147483647
          · have hN2 : n ≤ 2147483647 := hc
            clear hc
            by_cases hc : d = false
            · subst hc
              by_cases hc : v.length = 0
              · obtain rfl := List.eq_nil_of_length_eq_zero hc
                have HE := Lib.hid (show En.chk ⟨k, s, n, ⟨#[]⟩, [], false⟩ = 0 from En.chk_ok (by rw [may_m hm]; exact ⟨rfl, by omega, by omega, by omega, by omega, rfl, rfl⟩))
                have b1 := and_6_1
                have b2 := and_6_2
                have b4 := and_6_4
                have b8 := and_6_8
                have b16 := and_6_16
                go_enter Try.func81, Try.ntmps81
                go_wp2_with fail
                refine (fields_any k).mono ?_
                rintro e w1 ⟨rfl, rfl⟩
                rw [HF.out]
                go_wp2
                all_goals go_ret
                all_goals exact ⟨by rw [HE.out]; rfl, (Below.refl _ _).alloc (Nat.le_refl _) _⟩
              · have hV0 : (0 : Int) < v.length := by omega
                have HE := Lib.hid (show En.chk ⟨k, s, n, ⟨#[]⟩, v, false⟩ = 100 from En.chk_no (by rw [may_m hm]; rintro ⟨q0, q1, q2, q3, q4, q5, q6⟩; omega))
                clear hc
                have b1 := and_6_1
                have b2 := and_6_2
                have b4 := and_6_4
                have b8 := and_6_8
                have b16 := and_6_16
                go_enter Try.func81, Try.ntmps81
                go_wp2_with fail
                refine (fields_any k).mono ?_
                rintro e w1 ⟨rfl, rfl⟩
                rw [HF.out]
                go_wp2
                all_goals go_ret
                all_goals exact ⟨by rw [HE.out]; rfl, (Below.refl _ _).alloc (Nat.le_refl _) _⟩
            · obtain rfl : d = true := by cases d <;> simp_all
              have HE := Lib.hid (show En.chk ⟨k, s, n, ⟨#[]⟩, v, true⟩ = 100 from En.chk_no (by rw [may_m hm]; rintro ⟨q0, q1, q2, q3, q4, q5, q6⟩; cases q5))
              have b1 := and_6_1
              have b2 := and_6_2
              have b4 := and_6_4
              have b8 := and_6_8
              have b16 := and_6_16
              go_enter Try.func81, Try.ntmps81
              go_wp2_with fail
              refine (fields_any k).mono ?_
              rintro e w1 ⟨rfl, rfl⟩
              rw [HF.out]
              go_wp2
              all_goals go_ret
              all_goals exact ⟨by rw [HE.out]; rfl, (Below.refl _ _).alloc (Nat.le_refl _) _⟩
          · have hN2 : 2147483647 < n := by omega
            have HE := Lib.hid (show En.chk ⟨k, s, n, ⟨#[]⟩, v, d⟩ = 100 from En.chk_no (by rw [may_m hm]; rintro ⟨q0, q1, q2, q3, q4, q5, q6⟩; omega))
            clear hc
            have b1 := and_6_1
            have b2 := and_6_2
            have b4 := and_6_4
            have b8 := and_6_8
            have b16 := and_6_16
            go_enter Try.func81, Try.ntmps81
            go_wp2_with fail
            refine (fields_any k).mono ?_
            rintro e w1 ⟨rfl, rfl⟩
            rw [HF.out]
            go_wp2
            all_goals go_ret
            all_goals exact ⟨by rw [HE.out]; rfl, (Below.refl _ _).alloc (Nat.le_refl _) _⟩
        · have hN1 : n < 0 := by omega
          have HE := Lib.hid (show En.chk ⟨k, s, n, ⟨#[]⟩, v, d⟩ = 100 from En.chk_no (by rw [may_m hm]; rintro ⟨q0, q1, q2, q3, q4, q5, q6⟩; omega))
          clear hc
          have b1 := and_6_1
          have b2 := and_6_2
          have b4 := and_6_4
          have b8 := and_6_8
          have b16 := and_6_16
          go_enter Try.func81, Try.ntmps81
          go_wp2_with fail
          refine (fields_any k).mono ?_
          rintro e w1 ⟨rfl, rfl⟩
          rw [HF.out]
          go_wp2
          all_goals go_ret
          all_goals exact ⟨by rw [HE.out]; rfl, (Below.refl _ _).alloc (Nat.le_refl _) _⟩
      · have hS2 : 4611686018427387904 < s := by omega
        have HE := Lib.hid (show En.chk ⟨k, s, n, ⟨#[]⟩, v, d⟩ = 100 from En.chk_no (by rw [may_m hm]; rintro ⟨q0, q1, q2, q3, q4, q5, q6⟩; omega))
        clear hc
        have b1 := and_6_1
        have b2 := and_6_2
        have b4 := and_6_4
        have b8 := and_6_8
        have b16 := and_6_16
        go_enter Try.func81, Try.ntmps81
        go_wp2_with fail
        refine (fields_any k).mono ?_
        rintro e w1 ⟨rfl, rfl⟩
        rw [HF.out]
        go_wp2
        all_goals go_ret
        all_goals exact ⟨by rw [HE.out]; rfl, (Below.refl _ _).alloc (Nat.le_refl _) _⟩
    · have hS1 : s < 0 := by omega
      have HE := Lib.hid (show En.chk ⟨k, s, n, ⟨#[]⟩, v, d⟩ = 100 from En.chk_no (by rw [may_m hm]; rintro ⟨q0, q1, q2, q3, q4, q5, q6⟩; omega))
      clear hc
      have b1 := and_6_1
      have b2 := and_6_2
      have b4 := and_6_4
      have b8 := and_6_8
      have b16 := and_6_16
      go_enter Try.func81, Try.ntmps81
      go_wp2_with fail
      refine (fields_any k).mono ?_
      rintro e w1 ⟨rfl, rfl⟩
      rw [HF.out]
      go_wp2
      all_goals go_ret
      all_goals exact ⟨by rw [HE.out]; rfl, (Below.refl _ _).alloc (Nat.le_refl _) _⟩
  · obtain ⟨hKE1, hKE2, hKE3⟩ := str_ne hc
    have hKE4 : (0 : Int) < key.size := by omega
    have HE := Lib.hid (show En.chk ⟨k, s, n, key, v, d⟩ = 100 from En.chk_no (by rw [may_m hm]; rintro ⟨q0, q1, q2, q3, q4, q5, q6⟩; omega))
    clear hc
    have b1 := and_6_1
    have b2 := and_6_2
    have b4 := and_6_4
    have b8 := and_6_8
    have b16 := and_6_16
    go_enter Try.func81, Try.ntmps81
    go_wp2_with fail
    refine (fields_any k).mono ?_
    rintro e w1 ⟨rfl, rfl⟩
    rw [HF.out]
    go_wp2
    all_goals go_ret
    all_goals exact ⟨by rw [HE.out]; rfl, (Below.refl _ _).alloc (Nat.le_refl _) _⟩
set_option maxRecDepth 100000 in
set_option maxHeartbeats 3200000 in
theorem check_5 {w : World} {A : Option Addr} {c : Nat} (s n : Int) (key : ByteArray) (v : List UInt8) (d : Bool) (hks : key.size ≤ 140737488355328) (hvl : v.length ≤ 140737488355328) :
    Calls Try.prog 81 #[.agg (En.cells ⟨5, s, n, key, v, d⟩ A c)] w fun e w' => e = .returned (.int .i64 (En.chk ⟨5, s, n, key, v, d⟩)) ∧ Below w.heap.size w w' := by
  unfold En.cells
  simp only
  by_cases hc : 1 ≤ key.size
  · have hK1 : (1 : Int) ≤ key.size := by omega
    clear hc
    by_cases hc : key.size ≤ 255
    · have hK2 : (key.size : Int) ≤ 255 := by omega
      clear hc
      by_cases hc : 0 ≤ s
      · have hS1 : 0 ≤ s := hc
        clear hc
        by_cases hc : s ≤ 4611686018427387904
        · have hS2 : s ≤ 4611686018427387904 := hc
          clear hc
          by_cases hc : n = 0
          · subst hc
            by_cases hc : d = false
            · subst hc
              by_cases hc : v.length ≤ 4096
              · have hV4 : (v.length : Int) ≤ 4096 := by omega
                clear hc
                have HE := Lib.hid (show En.chk ⟨5, s, 0, key, v, false⟩ = 0 from En.chk_ok (by rw [may_5]; exact ⟨by omega, by omega, by omega, by omega, rfl, by first | omega | exact Nat.zero_le _, fun hd => by first | rfl | cases hd⟩))
                have b1 := and_27_1
                have b2 := and_27_2
                have b4 := and_27_4
                have b8 := and_27_8
                have b16 := and_27_16
                go_enter Try.func81, Try.ntmps81
                go_wp2_with fail
                refine (fields_any 5).mono ?_
                rintro e w1 ⟨rfl, rfl⟩
                rw [show fieldsF 5 = 27 from rfl]
                go_wp2
                all_goals go_ret
                all_goals exact ⟨by rw [HE.out]; rfl, (Below.refl _ _).alloc (Nat.le_refl _) _⟩
              · have hV4 : (4096 : Int) < v.length := by omega
                have HE := Lib.hid (show En.chk ⟨5, s, 0, key, v, false⟩ = 100 from En.chk_no (by rw [may_5]; rintro ⟨q0, q1, q2, q3, q4, q5, q6⟩; omega))
                clear hc
                have b1 := and_27_1
                have b2 := and_27_2
                have b4 := and_27_4
                have b8 := and_27_8
                have b16 := and_27_16
                go_enter Try.func81, Try.ntmps81
                go_wp2_with fail
                refine (fields_any 5).mono ?_
                rintro e w1 ⟨rfl, rfl⟩
                rw [show fieldsF 5 = 27 from rfl]
                go_wp2
                all_goals go_ret
                all_goals exact ⟨by rw [HE.out]; rfl, (Below.refl _ _).alloc (Nat.le_refl _) _⟩
            · obtain rfl : d = true := by cases d <;> simp_all
              by_cases hc : v.length = 0
              · obtain rfl := List.eq_nil_of_length_eq_zero hc
                have HE := Lib.hid (show En.chk ⟨5, s, 0, key, [], true⟩ = 0 from En.chk_ok (by rw [may_5]; exact ⟨by omega, by omega, by omega, by omega, rfl, by first | omega | exact Nat.zero_le _, fun hd => by first | rfl | cases hd⟩))
                have b1 := and_27_1
                have b2 := and_27_2
                have b4 := and_27_4
                have b8 := and_27_8
                have b16 := and_27_16
                go_enter Try.func81, Try.ntmps81
                go_wp2_with fail
                refine (fields_any 5).mono ?_
                rintro e w1 ⟨rfl, rfl⟩
                rw [show fieldsF 5 = 27 from rfl]
                go_wp2
                all_goals go_ret
                all_goals exact ⟨by rw [HE.out]; rfl, (Below.refl _ _).alloc (Nat.le_refl _) _⟩
              · have hV0 : (0 : Int) < v.length := by omega
                have HE := Lib.hid (show En.chk ⟨5, s, 0, key, v, true⟩ = 100 from En.chk_no (by rw [may_5]; rintro ⟨q0, q1, q2, q3, q4, q5, q6⟩; have := q6 rfl; omega))
                have b1 := and_27_1
                have b2 := and_27_2
                have b4 := and_27_4
                have b8 := and_27_8
                have b16 := and_27_16
                go_enter Try.func81, Try.ntmps81
                go_wp2_with fail
                refine (fields_any 5).mono ?_
                rintro e w1 ⟨rfl, rfl⟩
                rw [show fieldsF 5 = 27 from rfl]
                go_wp2
                all_goals go_ret
                all_goals exact ⟨by rw [HE.out]; rfl, (Below.refl _ _).alloc (Nat.le_refl _) _⟩
          · have hN0 : (n != 0) = true := by rw [bne_iff_ne]; exact hc
            have hN0b : (n == 0) = false := by rw [beq_eq_false_iff_ne]; exact hc
            have HE := Lib.hid (show En.chk ⟨5, s, n, key, v, d⟩ = 100 from En.chk_no (by rw [may_5]; rintro ⟨q0, q1, q2, q3, q4, q5, q6⟩; exact hc q4))
            clear hc
            have b1 := and_27_1
            have b2 := and_27_2
            have b4 := and_27_4
            have b8 := and_27_8
            have b16 := and_27_16
            go_enter Try.func81, Try.ntmps81
            go_wp2_with fail
            refine (fields_any 5).mono ?_
            rintro e w1 ⟨rfl, rfl⟩
            rw [show fieldsF 5 = 27 from rfl]
            go_wp2
            all_goals go_ret
            all_goals exact ⟨by rw [HE.out]; rfl, (Below.refl _ _).alloc (Nat.le_refl _) _⟩
        · have hS2 : 4611686018427387904 < s := by omega
          have HE := Lib.hid (show En.chk ⟨5, s, n, key, v, d⟩ = 100 from En.chk_no (by rw [may_5]; rintro ⟨q0, q1, q2, q3, q4, q5, q6⟩; omega))
          clear hc
          have b1 := and_27_1
          have b2 := and_27_2
          have b4 := and_27_4
          have b8 := and_27_8
          have b16 := and_27_16
          go_enter Try.func81, Try.ntmps81
          go_wp2_with fail
          refine (fields_any 5).mono ?_
          rintro e w1 ⟨rfl, rfl⟩
          rw [show fieldsF 5 = 27 from rfl]
          go_wp2
          all_goals go_ret
          all_goals exact ⟨by rw [HE.out]; rfl, (Below.refl _ _).alloc (Nat.le_refl _) _⟩
      · have hS1 : s < 0 := by omega
        have HE := Lib.hid (show En.chk ⟨5, s, n, key, v, d⟩ = 100 from En.chk_no (by rw [may_5]; rintro ⟨q0, q1, q2, q3, q4, q5, q6⟩; omega))
        clear hc
        have b1 := and_27_1
        have b2 := and_27_2
        have b4 := and_27_4
        have b8 := and_27_8
        have b16 := and_27_16
        go_enter Try.func81, Try.ntmps81
        go_wp2_with fail
        refine (fields_any 5).mono ?_
        rintro e w1 ⟨rfl, rfl⟩
        rw [show fieldsF 5 = 27 from rfl]
        go_wp2
        all_goals go_ret
        all_goals exact ⟨by rw [HE.out]; rfl, (Below.refl _ _).alloc (Nat.le_refl _) _⟩
    · have hK2 : (255 : Int) < key.size := by omega
      have hK2b : decide ((key.size : Int) ≤ 255) = false := decide_eq_false (by omega)
      have HE := Lib.hid (show En.chk ⟨5, s, n, key, v, d⟩ = 100 from En.chk_no (by rw [may_5]; rintro ⟨q0, q1, q2, q3, q4, q5, q6⟩; omega))
      clear hc
      have b1 := and_27_1
      have b2 := and_27_2
      have b4 := and_27_4
      have b8 := and_27_8
      have b16 := and_27_16
      go_enter Try.func81, Try.ntmps81
      go_wp2_with fail
      refine (fields_any 5).mono ?_
      rintro e w1 ⟨rfl, rfl⟩
      rw [show fieldsF 5 = 27 from rfl]
      go_wp2
      all_goals go_ret
      all_goals exact ⟨by rw [HE.out]; rfl, (Below.refl _ _).alloc (Nat.le_refl _) _⟩
  · have hK1 : (key.size : Int) < 1 := by omega
    have HE := Lib.hid (show En.chk ⟨5, s, n, key, v, d⟩ = 100 from En.chk_no (by rw [may_5]; rintro ⟨q0, q1, q2, q3, q4, q5, q6⟩; omega))
    clear hc
    have b1 := and_27_1
    have b2 := and_27_2
    have b4 := and_27_4
    have b8 := and_27_8
    have b16 := and_27_16
    go_enter Try.func81, Try.ntmps81
    go_wp2_with fail
    refine (fields_any 5).mono ?_
    rintro e w1 ⟨rfl, rfl⟩
    rw [show fieldsF 5 = 27 from rfl]
    go_wp2
    all_goals go_ret
    all_goals exact ⟨by rw [HE.out]; rfl, (Below.refl _ _).alloc (Nat.le_refl _) _⟩
theorem check_x {w : World} {A : Option Addr} {c : Nat} (k s n : Int) (key : ByteArray) (v : List UInt8) (d : Bool) (hk : ¬ (1 ≤ k ∧ k ≤ 6)) (hks : key.size ≤ 140737488355328) (hvl : v.length ≤ 140737488355328) :
    Calls Try.prog 81 #[.agg (En.cells ⟨k, s, n, key, v, d⟩ A c)] w fun e w' => e = .returned (.int .i64 (En.chk ⟨k, s, n, key, v, d⟩)) ∧ Below w.heap.size w w' := by
  have HE := Lib.hid (En.chk_no (may_x (s := s) (n := n) (key := key) (v := v) (d := d) hk))
  have HF := Lib.hid (show fieldsF k = 0 from by unfold fieldsF; rw [if_neg (by omega), if_neg (by omega), if_neg (by omega), if_neg (by omega)])
  unfold En.cells
  simp only
  clear hk
  go_enter Try.func81, Try.ntmps81
  go_wp2_with fail
  refine (fields_any k).mono ?_
  rintro e w1 ⟨rfl, rfl⟩
  rw [HF.out]
  go_wp2
  all_goals go_ret
  all_goals exact ⟨by rw [HE.out]; rfl, (Below.refl _ _).alloc (Nat.le_refl _) _⟩
theorem check_any {w : World} {A : Option Addr} {c : Nat} (x : En) (hks : x.key.size ≤ 140737488355328) (hvl : x.value.length ≤ 140737488355328) :
    Calls Try.prog 81 #[.agg (x.cells A c)] w fun e w' => e = .returned (.int .i64 x.chk) ∧ Below w.heap.size w w' := by
  obtain ⟨k, s, n, key, v, d⟩ := x
  by_cases h1 : k = 1
  · subst h1; exact check_1 s n key v d hks hvl
  by_cases h2 : k = 2
  · subst h2; exact check_2 s n key v d hks hvl
  by_cases h5 : k = 5
  · subst h5; exact check_5 s n key v d hks hvl
  by_cases hm : k = 3 ∨ k = 4 ∨ k = 6
  · exact check_m k hm s n key v d hks hvl
  · exact check_x k s n key v d (by omega) hks hvl
end Go.Proofs.Ytoecgkdipgaaeaa
