/- Contracts and plain laws that this claim leans on, laid together: Rws, Mem, Inv, Range, InvIn, RowT. -/
import Derived.Test.YtmnpchncmbnddaaG01
import Derived.RangeFuncWrites
import Derived.RangeFuncBox
import Derived.RangeFuncNested
import Derived.RangeFuncBound
import Derived.RangeFuncCalls
import Derived.RangeFuncLeaves
import Derived.Shelf.Abstract
import Derived.Shelf.RegionOpen
import Derived.OwnWalkIn
import Derived.TacticsInMore
import Derived.LoopNIn
import Derived.LoopIn
import Derived.OrdersIn
set_option linter.all false
set_option linter.unusedVariables false
set_option linter.unusedSimpArgs false
set_option linter.unnecessarySimpa false
/- Rows of bytes with spare room, filled and grown: words for laws on new memory. -/
namespace Go.Proofs.Ytmnpchncmbnddaa
open Go.RowKit

theorem BOwns.keepsB {S : Nat → Prop} {w w' : World} {base : Nat} {v : Value} {l : List UInt8} (h : BOwns w base v l) (hk : Keeps S w w') (hs : ∀ k, v.ownBlock = some k → ¬ S k) : BOwns w' base v l := by
  refine ⟨h.1, ?_⟩
  rcases h.2 with h2 | ⟨g, cap, cur, hv, hg, hh, r⟩
  · exact .inl h2
  · have hb : Blk w g 5 cur := hh
    exact .inr ⟨g, cap, cur, hv, hg, hb.keeps hk (hs g (by rw [hv]; rfl)), r⟩
theorem BOwns.lt {w : World} {base : Nat} {v : Value} {l : List UInt8} (h : BOwns w base v l) {k : Nat} (hk : v.ownBlock = some k) : base ≤ k ∧ k < w.heap.size := by
  rcases h.2 with ⟨h2, _⟩ | ⟨g, cap, cur, hv, hg, hh, r⟩
  · rw [h2] at hk; cases hk
  · have hb : Blk w g 5 cur := hh
    rw [hv] at hk
    injection hk with hk
    subst hk
    exact ⟨hg, hb.lt⟩
theorem BOwns.reads {w : World} {base n c : Nat} {A : Option Addr} {l : List UInt8} (h : BOwns w base (.slice A n c) l) : BReads w w.heap.size A l := by
  obtain ⟨A', c', e, _, hr⟩ := BOwns.slice h
  injection e with e1
  subst e1
  exact hr
/-- A row of the call's own that grows by one byte. -/
structure Grows (w0 w : World) (base : Nat) (row : Option Nat) (v : Value) (l : List UInt8) : Prop where
  own : BOwns w base v l
  grown : w0.grownBy w row
  from_ : OwnFrom w0 row v
  le : base ≤ w0.heap.size
theorem Grows.start {w : World} {base : Nat} {v : Value} {l : List UInt8} (h : BOwns w base v l) (hb : base ≤ w.heap.size) : Grows w w base v.ownBlock v l := ⟨h, World.grownBy.refl _ _, .inl rfl, hb⟩
theorem Grows.step {w0 w w1 : World} {base : Nat} {row : Option Nat} {v v' : Value} {l : List UInt8} {o : Obj} {m : List UInt8} (h : Grows w0 w base row v l) (ho : BOwns w1 base v' (l ++ m)) (hg : (w.alloc o).grownBy w1 v.ownBlock) (hf : v'.ownBlock = v.ownBlock ∨ v'.ownBlock = some (w.alloc o).heap.size) : Grows w0 w1 base row v' (l ++ m) :=
  ⟨ho, grown_step (grown_alloc h.grown _) h.from_ hg, OwnFrom.step h.from_ (by have := h.grown.size; simp; omega) hf, h.le⟩
theorem Grows.keeps {w0 w : World} {base : Nat} {row : Option Nat} {v : Value} {l : List UInt8} (h : Grows w0 w base row v l) : Keeps (fun k => some k = row) w0 w := Keeps.of_grown h.grown
theorem Grows.far {w0 w : World} {base : Nat} {row : Option Nat} {v : Value} {l : List UInt8} (h : Grows w0 w base row v l) {k : Nat} (hk : k < w0.heap.size) (hr : row ≠ some k) : v.ownBlock ≠ some k := fun e => by
  rcases h.from_ with h1 | h1
  · exact hr (h1.symm.trans e)
  · have := h1 k e; omega
/-- Rows of the call's own, each in a block of its own. -/
structure Rws (w0 w : World) (rs : List (Value × List UInt8)) : Prop where
  own : ∀ r ∈ rs, BOwns w w0.heap.size r.1 r.2
  sep : rs.Pairwise fun a b => ∀ k, a.1.ownBlock = some k → b.1.ownBlock ≠ some k
  bel : Below w0.heap.size w0 w
section
variable {w0 w w' : World} {rs : List (Value × List UInt8)} {v v' u : Value} {l l' m : List UInt8}
theorem Rws.nil (h : Below w0.heap.size w0 w) : Rws w0 w [] := ⟨fun _ h => (by cases h), List.Pairwise.nil, h⟩
theorem Rws.go (h : Rws w0 w rs) (hb : Below w.heap.size w w') : Rws w0 w' rs := ⟨fun r hr => (h.own r hr).below hb, h.sep, h.bel.trans (hb.mono h.bel.size)⟩
theorem Rws.new (h : Rws w0 w rs) (ho : BOwns w' w.heap.size v l) (hb : Below w.heap.size w w') : Rws w0 w' ((v, l) :: rs) := by
  refine ⟨fun r hr => ?_, List.pairwise_cons.2 ⟨fun r hr k e1 e2 => ?_, h.sep⟩, h.bel.trans (hb.mono h.bel.size)⟩
  · rcases List.mem_cons.1 hr with rfl | hr
    · exact owns_less ho h.bel.size
    · exact (h.own r hr).below hb
  · have := (ho.lt e1).1; have := ((h.own r hr).lt e2).2; omega
theorem Rws.swap (h : Rws w0 w ((v, l) :: (u, m) :: rs)) : Rws w0 w ((u, m) :: (v, l) :: rs) := by
  have h1 := List.pairwise_cons.1 h.sep
  have h2 := List.pairwise_cons.1 h1.2
  refine ⟨fun r hr => h.own r (by simp only [List.mem_cons] at hr ⊢; rcases hr with h | h | h <;> simp [h]), List.pairwise_cons.2 ⟨fun r hr k e1 e2 => ?_, List.pairwise_cons.2 ⟨fun r hr => h1.1 r (List.mem_cons_of_mem _ hr), h2.2⟩⟩, h.bel⟩
  rcases List.mem_cons.1 hr with rfl | hr
  · exact h1.1 _ (List.mem_cons_self ..) k e2 e1
  · exact h2.1 r hr k e1 e2
theorem Rws.turn (h : Rws w0 w ((v, l) :: rs)) (ho : BOwns w' w0.heap.size v' l') (hk : Keeps (fun k => some k = v.ownBlock) w w') (hne : ∀ k, v'.ownBlock = some k → ∀ r ∈ rs, r.1.ownBlock ≠ some k) : Rws w0 w' ((v', l') :: rs) := by
  have h1 := List.pairwise_cons.1 h.sep
  refine ⟨fun r hr => ?_, List.pairwise_cons.2 ⟨fun r hr k e => hne k e r hr, h1.2⟩, h.bel.trans (hk.below h.bel.size (fun i hi => ((h.own _ (List.mem_cons_self ..)).lt hi.symm).1))⟩
  rcases List.mem_cons.1 hr with rfl | hr
  · exact ho
  · exact (h.own r (List.mem_cons_of_mem _ hr)).keepsB hk (fun k e e' => h1.1 r hr k e'.symm e)
theorem Rws.head (h : Rws w0 w ((v, l) :: rs)) : BOwns w w0.heap.size v l := h.own _ (List.mem_cons_self ..)
theorem Rws.grow (h : Rws w0 w ((v, l) :: rs)) (hg : Grows w w' w0.heap.size v.ownBlock v' l') : Rws w0 w' ((v', l') :: rs) :=
  h.turn hg.own hg.keeps fun k e r hr e2 => hg.far ((h.own r (List.mem_cons_of_mem _ hr)).lt e2).2 (fun e3 => (List.pairwise_cons.1 h.sep).1 r hr k e3 e2) e
/-- A block of another type stays while a row is written. -/
theorem Rws.blk {g : Nat} {t : TypeId} {cs : Array Value} (h : BOwns w w0.heap.size v l) (hb : Blk w g t cs) (ht : 5 ≠ t) (hk : Keeps (fun k => some k = v.ownBlock) w w') : Blk w' g t cs := by
  refine hb.keeps hk fun e => ?_
  rcases h.2 with ⟨h2, _⟩ | ⟨g', cap, cur, hv, hg, hh, r⟩
  · rw [h2] at e; cases e
  · rw [hv] at e
    have e' : g = g' := Option.some.inj e
    subst e'
    unfold Blk at hb
    rw [hb] at hh
    injection hh with hh
    injection hh with _ hh
    exact ht hh.symm
end

end Go.Proofs.Ytmnpchncmbnddaa
/- Pieces of memory that lie apart: blocks, rows of bytes, and what is made of them. -/
namespace Go.Proofs.Ytmnpchncmbnddaa
open Go.RowKit

/-- A piece of memory: its blocks, and what they hold. -/
structure Item where
  own : Nat → Prop
  P : World → Prop
  keep : ∀ {w w' : World}, P w → (∀ k, own k → w'.heap[k]? = w.heap[k]?) → P w'
  lt : ∀ {w : World} {k : Nat}, P w → own k → k < w.heap.size
def Item.blk (g : Nat) (t : TypeId) (cs : Array Value) : Item where
  own := fun k => k = g
  P := fun w => Blk w g t cs
  keep := fun h hk => (hk g rfl).trans h
  lt := fun h e => by subst e; exact Blk.lt h
def Item.row (v : Value) (l : List UInt8) : Item where
  own := fun k => v.ownBlock = some k
  P := fun w => BOwns w 0 v l
  keep := fun {w w'} h hk => by
    refine ⟨h.1, ?_⟩
    rcases h.2 with h2 | ⟨g, cap, cur, hv, hb, hh, r⟩
    · exact .inl h2
    · exact .inr ⟨g, cap, cur, hv, hb, (hk g (by rw [hv]; rfl)).trans hh, r⟩
  lt := fun h e => (h.lt e).2
/-- Pieces that lie apart. -/
def Item.all (L : List Item) : Item where
  own := fun k => ∃ i ∈ L, i.own k
  P := fun w => (∀ i ∈ L, i.P w) ∧ L.Pairwise fun (a b : Item) => ∀ k : Nat, a.own k → ¬ b.own k
  keep := fun h hk => ⟨fun i hi => i.keep (h.1 i hi) fun k ho => hk k ⟨i, hi, ho⟩, h.2⟩
  lt := fun h ⟨i, hi, ho⟩ => i.lt (h.1 i hi) ho
theorem Item.go {x : Item} {w w' : World} (h : x.P w) (hb : Below w.heap.size w w') : x.P w' := x.keep h fun k hk => hb.block k (x.lt h hk)
theorem Item.far {x : Item} {w w' : World} {S : Nat → Prop} (h : x.P w) (hk : Keeps S w w') (hs : ∀ k, x.own k → ¬ S k) : x.P w' := x.keep h fun k ho => hk.block k (x.lt h ho) (hs k ho)
/-- A piece has become another one; nothing else was written. -/
structure Turn (x : Item) (w : World) (y : Item) (w' : World) : Prop where
  p : y.P w'
  k : Keeps x.own w w'
  o : ∀ k, y.own k → x.own k ∨ w.heap.size ≤ k
section
variable {x y z a b : Item} {w w' w'' : World} {L M : List Item}
theorem Turn.refl (h : x.P w) : Turn x w x w := ⟨h, Keeps.refl _ _, fun _ h => .inl h⟩
theorem Turn.trans (h : Turn x w y w') (h' : Turn y w' z w'') : Turn x w z w'' :=
  ⟨h'.p, h.k.trans h'.k (fun i hi => h.o i hi), fun k hk => by
    rcases h'.o k hk with h1 | h1
    · exact h.o k h1
    · exact .inr (Nat.le_trans h.k.size h1)⟩
theorem Turn.go (h : Turn x w y w') (hb : Below w'.heap.size w' w'') : Turn x w y w'' :=
  ⟨Item.go h.p hb, h.k.trans (Keeps.of_below hb (fun _ => False)) (fun _ h => h.elim), h.o⟩
theorem Turn.pre (hb : Below w.heap.size w w') (h : Turn x w' y w'') : Turn x w y w'' :=
  ⟨h.p, (Keeps.of_below hb x.own).trans h.k (fun i hi => .inl hi), fun k hk => by
    rcases h.o k hk with h1 | h1
    · exact .inl h1
    · exact .inr (Nat.le_trans hb.size h1)⟩
theorem Turn.below {B : Nat} (h : Turn x w y w') (hB : B ≤ w.heap.size) (ho : ∀ k, x.own k → B ≤ k) : Below B w w' := h.k.below hB ho
theorem Item.all_get (h : (Item.all L).P w) (hx : x ∈ L) : x.P w := h.1 x hx
theorem Item.all_perm (h : (Item.all L).P w) (hp : L.Perm M) : (Item.all M).P w :=
  ⟨fun i hi => h.1 i (hp.mem_iff.2 hi), hp.pairwise h.2 (fun {a b} hab k hb ha => hab k ha hb)⟩
/-- A piece more, all of it new. -/
theorem Item.all_add (h : (Item.all L).P w) (hb : Below w.heap.size w w') (hy : y.P w') (ho : ∀ k, y.own k → w.heap.size ≤ k) : (Item.all (y :: L)).P w' :=
  ⟨fun i hi => by
    rcases List.mem_cons.1 hi with rfl | hi
    · exact hy
    · exact Item.go (h.1 i hi) hb, List.pairwise_cons.2 ⟨fun i hi k h1 h2 => by have := ho k h1; have := i.lt (h.1 i hi) h2; omega, h.2⟩⟩
/-- The first of the pieces has become another one. -/
theorem Item.all_head (h : (Item.all (x :: L)).P w) (t : Turn x w y w') : (Item.all (y :: L)).P w' := by
  have h1 := List.pairwise_cons.1 h.2
  have hx : ∀ i ∈ L, i.P w := fun i hi => h.1 i (List.mem_cons_of_mem _ hi)
  refine ⟨fun i hi => ?_, List.pairwise_cons.2 ⟨fun i hi k hk hk2 => ?_, h1.2⟩⟩
  · rcases List.mem_cons.1 hi with rfl | hi
    · exact t.p
    · exact Item.far (hx i hi) t.k fun k hk hk2 => h1.1 i hi k hk2 hk
  · rcases t.o k hk with h2 | h2
    · exact h1.1 i hi k h2 hk2
    · have := i.lt (hx i hi) hk2; omega
theorem Turn.head (h : (Item.all (x :: L)).P w) (t : Turn x w y w') : Turn (Item.all (x :: L)) w (Item.all (y :: L)) w' :=
  ⟨Item.all_head h t, t.k.mono (fun i hi => .inl ⟨x, List.mem_cons_self .., hi⟩), fun k ⟨i, hi, hk⟩ => by
    rcases List.mem_cons.1 hi with rfl | hi
    · rcases t.o k hk with h1 | h1
      · exact .inl ⟨x, List.mem_cons_self .., h1⟩
      · exact .inr h1
    · exact .inl ⟨i, List.mem_cons_of_mem _ hi, hk⟩⟩
theorem Turn.second (h : (Item.all (a :: x :: L)).P w) (t : Turn x w y w') : Turn (Item.all (a :: x :: L)) w (Item.all (a :: y :: L)) w' := by
  have hp := Item.all_perm h (List.Perm.swap x a L)
  have t1 := Turn.head hp t
  exact ⟨Item.all_perm t1.p (List.Perm.swap a y L), t1.k.mono (fun i ⟨j, hj, hk⟩ => .inl ⟨j, (List.Perm.swap x a L).mem_iff.2 hj, hk⟩), fun k ⟨i, hi, hk⟩ => by
    rcases t1.o k ⟨i, (List.Perm.swap a y L).mem_iff.2 hi, hk⟩ with ⟨j, hj, h2⟩ | h2
    · exact .inl ⟨j, (List.Perm.swap x a L).mem_iff.2 hj, h2⟩
    · exact .inr h2⟩
theorem Turn.new (h : (Item.all L).P w) (hb : Below w.heap.size w w') (hy : y.P w') (ho : ∀ k, y.own k → w.heap.size ≤ k) : Turn (Item.all L) w (Item.all (y :: L)) w' :=
  ⟨Item.all_add h hb hy ho, Keeps.of_below hb _, fun k ⟨i, hi, hk⟩ => by
    rcases List.mem_cons.1 hi with rfl | hi
    · exact .inr (ho k hk)
    · exact .inl ⟨i, hi, hk⟩⟩
theorem Turn.drop (h : Turn x w (Item.all (y :: L)) w') : Turn x w (Item.all L) w' :=
  ⟨⟨fun i hi => h.p.1 i (List.mem_cons_of_mem _ hi), (List.pairwise_cons.1 h.p.2).2⟩, h.k, fun k ⟨i, hi, hk⟩ => h.o k ⟨i, List.mem_cons_of_mem _ hi, hk⟩⟩
/-- The same with the pieces in another order. -/
theorem Turn.perm (h : Turn (Item.all L) w y w') (hp : L.Perm M) : Turn (Item.all M) w y w' :=
  ⟨h.p, h.k.mono (fun i ⟨j, hj, hk⟩ => .inl ⟨j, hp.mem_iff.1 hj, hk⟩), fun k hk => by
    rcases h.o k hk with ⟨j, hj, h2⟩ | h2
    · exact .inl ⟨j, hp.mem_iff.1 hj, h2⟩
    · exact .inr h2⟩
theorem Turn.permR (h : Turn x w (Item.all L) w') (hp : L.Perm M) : Turn x w (Item.all M) w' :=
  ⟨Item.all_perm h.p hp, h.k, fun k ⟨j, hj, hk⟩ => h.o k ⟨j, hp.mem_iff.2 hj, hk⟩⟩
/-- One of the pieces has become another one. -/
theorem Turn.set {i : Nat} (h : (Item.all L).P w) (hi : L[i]? = some x) (t : Turn x w y w') : Turn (Item.all L) w (Item.all (L.set i y)) w' := by
  obtain ⟨hlt, he⟩ := List.getElem?_eq_some_iff.1 hi
  have e1 : L = L.take i ++ x :: L.drop (i + 1) := by rw [← he, ← List.drop_eq_getElem_cons hlt, List.take_append_drop]
  have e2 : L.set i y = L.take i ++ y :: L.drop (i + 1) := by rw [List.set_eq_take_append_cons_drop, if_pos hlt]
  rw [e2]
  have p1 : L.Perm (x :: (L.take i ++ L.drop (i + 1))) := by
    have := List.perm_middle (a := x) (l₁ := L.take i) (l₂ := L.drop (i + 1))
    rwa [← e1] at this
  have hp := Item.all_perm h p1
  exact ((Turn.head hp t).perm p1.symm).permR (List.perm_middle (a := y) (l₁ := L.take i) (l₂ := L.drop (i + 1))).symm
theorem Turn.wide (h : Turn x w y w') (hz : z.P w) (ho : ∀ k, x.own k → z.own k) (hy : ∀ k, y.own k → z.own k ∨ w.heap.size ≤ k) : Turn z w y w' :=
  ⟨h.p, h.k.mono (fun i hi => .inl (ho i hi)), hy⟩
/-- A cell of a block is written. -/
theorem Turn.cell {g : Nat} {t : TypeId} {cs : Array Value} (h : Blk w g t cs) (i : Nat) (u : Value) : Turn (Item.blk g t cs) w (Item.blk g t (cs.setIfInBounds i u)) (w.setCell ⟨g, i, none⟩ u) :=
  ⟨h.set_ i u, (Keeps.refl (fun k => k = g) w).setCell (p := ⟨g, i, none⟩) (.inl rfl) u, fun k hk => .inl hk⟩
/-- A row of bytes has become another one. -/
theorem Turn.row {v v' : Value} {l l' : List UInt8} {base : Nat} (ho : BOwns w' base v' l') (hk : Keeps (fun k => some k = v.ownBlock) w w') (hf : v'.ownBlock = v.ownBlock ∨ ∀ k, v'.ownBlock = some k → w.heap.size ≤ k) :
    Turn (Item.row v l) w (Item.row v' l') w' :=
  ⟨owns_less ho (Nat.zero_le _), hk.mono (fun i hi => .inl hi.symm), fun k hk => by
    rcases hf with h | h
    · exact .inl (h.symm.trans hk)
    · exact .inr (h k hk)⟩
end
end Go.Proofs.Ytmnpchncmbnddaa
/- A region that draws its order, by what holds between two of its operations. -/
namespace Go.Proofs.Ytmnpchncmbnddaa
open Go.RowKit

/-- Each operation names only earlier ones. -/
def lexB (ops : Array Oper) : Bool := (List.range ops.size).all fun i => ((ops[i]?).map fun o => o.after.all fun e => decide (e.on < i)).getD true
theorem lexB_spec {ops : Array Oper} (h : lexB ops = true) {i : Nat} {o : Oper} (hi : ops[i]? = some o) : ∀ e ∈ o.after, e.on < i := by
  have hlt : i < ops.size := (Array.getElem?_eq_some_iff.1 hi).1
  have := List.all_eq_true.1 h i (List.mem_range.2 hlt)
  rw [hi] at this
  intro e he
  simp only [Option.map_some, Option.getD_some] at this
  exact of_decide_eq_true (Array.all_eq_true'.1 this e he)
/-- What is listed. -/
def lis (listed : Array Bool) (k : Nat) : Bool := listed.getD k false
def upd (L : Nat → Bool) (i : Nat) : Nat → Bool := fun k => if k = i then true else L k
theorem lis_upd {listed : Array Bool} {i : Nat} (h : i < listed.size) : lis (listed.setIfInBounds i true) = upd (lis listed) i := by
  funext k
  unfold lis upd
  rw [Array.getD_eq_getD_getElem?, Array.getElem?_setIfInBounds]
  by_cases hk : i = k
  · subst hk; simp [h]
  · simp [hk, Ne.symm hk]
theorem ready_spec {md : Region.Mode} {ops : Array Oper} {listed : Array Bool} {i : Nat} (hs : listed.size = ops.size) (h : i ∈ Region.ready md ops listed) :
    ∃ o, ops[i]? = some o ∧ lis listed i = false ∧ ∀ e ∈ o.after, Region.binds md e = true → lis listed e.on = true := by
  unfold Region.ready at h
  obtain ⟨h1, h2⟩ := List.mem_filter.1 h
  have hlt := List.mem_range.1 h1
  obtain ⟨h3, h4⟩ := Bool.and_eq_true_iff.1 h2
  rw [Array.getElem?_eq_getElem hlt] at h4
  refine ⟨_, Array.getElem?_eq_getElem hlt, ?_, fun e he hb => ?_⟩
  · unfold lis; rw [Array.getD_eq_getD_getElem?, Array.getElem?_eq_getElem (by omega)]
    rw [Array.getD_eq_getD_getElem?, Array.getElem?_eq_getElem (by omega)] at h3
    simpa using h3
  · simp only [Option.map_some, Option.getD_some] at h4
    have := Array.all_eq_true'.1 h4 e he
    rw [hb, Bool.not_true, Bool.false_or] at this
    exact this
theorem ready_nil {md : Region.Mode} {ops : Array Oper} {listed : Array Bool} (hs : listed.size = ops.size) (hl : lexB ops = true) (h : Region.ready md ops listed = []) : ∀ k, k < ops.size → lis listed k = true := by
  intro k
  induction k using Nat.strongRecOn with
  | _ k ih =>
    intro hk
    cases hb : lis listed k with
    | true => rfl
    | false =>
      exfalso
      have : k ∈ Region.ready md ops listed := by
        unfold Region.ready
        refine List.mem_filter.2 ⟨List.mem_range.2 hk, Bool.and_eq_true_iff.2 ⟨?_, ?_⟩⟩
        · unfold lis at hb
          rw [Array.getD_eq_getD_getElem?, Array.getElem?_eq_getElem (by omega)] at hb ⊢
          simpa using hb
        · rw [Array.getElem?_eq_getElem hk]
          simp only [Option.map_some, Option.getD_some]
          refine Array.all_eq_true'.2 fun e he => ?_
          have h1 := lexB_spec hl (Array.getElem?_eq_getElem hk) e he
          have h2 := ih e.on h1 (by omega)
          unfold lis at h2
          rw [h2, Bool.or_true]
      rw [h] at this
      cases this
def left (listed : Array Bool) : Nat := (listed.toList.filter (fun b => !b)).length
theorem left_set {listed : Array Bool} {i : Nat} (h : i < listed.size) (hf : lis listed i = false) : left (listed.setIfInBounds i true) + 1 = left listed := by
  unfold left lis at *
  rw [Array.getD_eq_getD_getElem?, Array.getElem?_eq_getElem h] at hf
  obtain ⟨l⟩ := listed
  simp only [List.size_toArray] at h
  simp only [List.getElem_toArray, Option.getD_some] at hf
  simp only [List.setIfInBounds_toArray]
  rw [List.set_eq_take_append_cons_drop, if_pos h]
  conv => rhs; rw [← List.take_append_drop i l, List.drop_eq_getElem_cons h, hf]
  simp [List.filter_append, List.filter_cons]
  omega
theorem lis_none (n : Nat) : lis (Array.replicate n false) = fun _ => false := by
  funext k; unfold lis
  rw [Array.getD_eq_getD_getElem?, Array.getElem?_replicate]; split <;> rfl
/-- A frame that is another one but for some slots. -/
structure Fr (S : List Nat) (a0 a : Act) : Prop where
  d : a.defers = a0.defers
  n : a.tmps.size = a0.tmps.size
  g : ∀ k, k ∉ S → a.tmps.getD k undef = a0.tmps.getD k undef
theorem Fr.refl (S : List Nat) (a : Act) : Fr S a a := ⟨rfl, rfl, fun _ _ => rfl⟩
theorem slot_get {a : Act} {d k : Nat} {v : Value} (h : d < a.tmps.size) : (a.put (some d) v).tmps.getD k undef = if k = d then v else a.tmps.getD k undef := by
  unfold Act.put
  simp only
  rw [Array.getD_eq_getD_getElem?, Array.getElem?_setIfInBounds]
  by_cases hk : d = k
  · subst hk; simp [h]
  · simp [hk, Ne.symm hk, Array.getD_eq_getD_getElem?]
theorem Fr.put {S : List Nat} {a0 a : Act} {d : Nat} (h : Fr S a0 a) (hd : d ∈ S) (v : Value) : Fr S a0 (a.put (some d) v) := by
  refine ⟨h.d, by unfold Act.put; simpa using h.n, fun k hk => ?_⟩
  by_cases hlt : d < a.tmps.size
  · rw [slot_get hlt, if_neg (fun e => hk (by rw [e]; exact hd))]; exact h.g k hk
  · unfold Act.put
    simp only
    rw [Array.setIfInBounds_eq_of_size_le (by omega)]; exact h.g k hk
theorem Fr.lit {S : List Nat} {a0 a : Act} (h : Fr S a0 a) : a = ⟨S.foldl (fun t k => t.setIfInBounds k (a.tmps.getD k undef)) a0.tmps, a0.defers⟩ := by
  have key : ∀ (S : List Nat) (t : Array Value), t.size = a.tmps.size → (∀ k, k ∉ S → t.getD k undef = a.tmps.getD k undef) → S.foldl (fun t k => t.setIfInBounds k (a.tmps.getD k undef)) t = a.tmps := by
    intro S
    induction S with
    | nil =>
      intro t hn hg
      show t = a.tmps
      refine Array.ext hn fun i h1 h2 => ?_
      have := hg i (by simp)
      rw [Array.getD_eq_getD_getElem?, Array.getD_eq_getD_getElem?, Array.getElem?_eq_getElem h1, Array.getElem?_eq_getElem h2] at this
      simpa using this
    | cons s S ih =>
      intro t hn hg
      refine ih _ (by simpa using hn) fun k hk => ?_
      rw [Array.getD_eq_getD_getElem?, Array.getElem?_setIfInBounds]
      by_cases hsk : s = k
      · subst hsk
        by_cases hlt : s < t.size
        · simp [hlt]
        · rw [if_pos rfl, if_neg hlt, Array.getD_eq_getD_getElem?, Array.getElem?_eq_none (by omega)]
      · rw [if_neg hsk, ← Array.getD_eq_getD_getElem?]
        exact hg k (by simp [hk, Ne.symm hsk])
  have := key S a0.tmps h.n.symm (fun k hk => (h.g k hk).symm)
  obtain ⟨t, d⟩ := a
  have hd := h.d
  simp only at this hd ⊢
  rw [this, hd]
/-- No piece. -/
def Item.none : Item := ⟨fun _ => False, fun _ => True, fun _ _ => trivial, fun _ h => h.elim⟩
theorem Turn.get {a x : Item} {w w' : World} {L : List Item} {i : Nat} (h : Turn a w (Item.all L) w') (hi : L[i]? = some x) : x.P w' := Item.all_get h.p (List.mem_of_getElem? hi)
theorem Turn.step {a x y : Item} {w w' w'' : World} {L : List Item} {i : Nat} (h : Turn a w (Item.all L) w') (hi : L[i]? = some x) (t : Turn x w' y w'') : Turn a w (Item.all (L.set i y)) w'' := h.trans (Turn.set h.p hi t)
theorem Turn.more {a y : Item} {w w' w'' : World} {L : List Item} (h : Turn a w (Item.all L) w') (hb : Below w'.heap.size w' w'') (hy : y.P w'') (ho : ∀ k, y.own k → w'.heap.size ≤ k) : Turn a w (Item.all (y :: L)) w'' := h.trans (Turn.new h.p hb hy ho)
theorem Turn.free {x : Item} {w w' : World} (h : Turn (Item.all []) w x w') : Below w.heap.size w w' := h.k.below (Nat.le_refl _) (fun k hk => by obtain ⟨i, hi, _⟩ := hk; cases hi)
end Go.Proofs.Ytmnpchncmbnddaa
/- A range over a function whose rounds may rely on what they are handed: Rd pre x W says what the round knows of x and of what came ahead. -/
namespace Go.Proofs.Ytmnpchncmbnddaa
open Go.RowKit

section
variable {α : Type} {F : Fence} {n : Nat} {P : Program}
/-- The iterator's contract: at every call of yield it has shown Rd. -/
def SeqRd (F : Fence) (n : Nat) (P : Program) (gf : Nat) (lb : Array Value) (encs : α → Array Value) (Kp : World → World → Prop) (Rd : List α → α → World → Prop) (S Sp : List α → Prop) (w : World) : Prop :=
  ∀ (l : Nat) (J Jx : List α → World → Prop) (W : World), Below w.heap.size w W → AbidesFrom W.heap.size J → AbidesFrom W.heap.size Jx →
    (∀ pre x V, J pre V → Rd pre x V → YieldAt F (n - 1) P l (encs x) V fun e V' => (e = .returned (.bool true) ∧ J (pre ++ [x]) V' ∧ Kp V V') ∨ (e = .returned (.bool false) ∧ Jx (pre ++ [x]) V')) →
    J [] W → CallsIn F n P gf (#[.func (.yield l) #[] #[]] ++ lb) W fun e V => (∃ v, e = .returned v) ∧ ((∃ xs, S xs ∧ J xs V) ∨ (∃ pre, Sp pre ∧ Jx pre V))

variable {g : Operand} {ps : Array Tmp} {assign body : Code} {Q : Exit → Act → World → Prop} {a : Act} {w : World}
end
end Go.Proofs.Ytmnpchncmbnddaa
/- A region that draws its order, in a round of a range over a function, by what holds between two of its operations. -/
namespace Go.Proofs.Ytmnpchncmbnddaa
open Go.RowKit

theorem anyIn_inv {F : Fence} {n : Nat} {P : Program} {md : Region.Mode} {ops : Array Oper} {Q : Exit → Act → World → Prop} (Inv : (Nat → Bool) → Act → World → Prop) (hl : lexB ops = true)
    (hs : ∀ L a w i o, ops[i]? = some o → L i = false → (∀ e ∈ o.after, Region.binds md e = true → L e.on = true) → Inv L a w → wpOpIn F n P ops Q i (Inv (upd L i)) a w)
    (he : ∀ L a w, (∀ k, k < ops.size → L k = true) → Inv L a w → Q .normal a w) :
    ∀ (fuel : Nat) (listed : Array Bool) (a : Act) (w : World), listed.size = ops.size → left listed ≤ fuel → Inv (lis listed) a w → wpAnyIn F n P md ops Q fuel listed a w := by
  intro fuel
  induction fuel with
  | zero =>
    intro listed a w hn hf h
    have hr : Region.ready md ops listed = [] := by
      rcases hrd : Region.ready md ops listed with _ | ⟨i, r⟩
      · rfl
      · obtain ⟨o, h1, h2, _⟩ := ready_spec hn (show i ∈ Region.ready md ops listed from by rw [hrd]; exact List.mem_cons_self ..)
        have := left_set (by have := (Array.getElem?_eq_some_iff.1 h1).1; omega) h2
        omega
    exact ⟨hr, he _ _ _ (ready_nil hn hl hr) h⟩
  | succ fuel ih =>
    intro listed a w hn hf h
    refine ⟨fun hr => he _ _ _ (ready_nil hn hl hr) h, fun i hi => ?_⟩
    obtain ⟨o, h1, h2, h3⟩ := ready_spec hn hi
    have hlt : i < listed.size := by have := (Array.getElem?_eq_some_iff.1 h1).1; omega
    refine wpOpIn_mono (fun a' w' h' => ih _ a' w' (by simpa using hn) (by have := left_set hlt h2; omega) ?_) (hs _ _ _ _ _ h1 h2 h3 h)
    rw [lis_upd hlt]
    exact h'
theorem regionIn_inv {F : Fence} {n : Nat} {P : Program} {id : Nat} {ops : Array Oper} {Q : Exit → Act → World → Prop} {a : Act} {w : World} (Inv : (Nat → Bool) → Act → World → Prop) (hm : P.follows .mixedOrders = true) (hl : lexB ops = true)
    (h0 : Inv (fun _ => false) a w.drew)
    (hs : ∀ L a w i o, ops[i]? = some o → L i = false → (∀ e ∈ o.after, Region.binds .any e = true → L e.on = true) → Inv L a w → wpOpIn F n P ops Q i (Inv (upd L i)) a w)
    (he : ∀ L a w, (∀ k, k < ops.size → L k = true) → Inv L a w → Q .normal a w) : (Code.region id ops true).wpIn F n P Q a w := by
  refine wpIn_region_any hm (anyIn_inv Inv hl hs he _ _ _ _ (by simp) ?_ ?_)
  · unfold left
    refine Nat.le_trans (List.length_filter_le _ _) (by simp)
  · rw [lis_none]; exact h0
end Go.Proofs.Ytmnpchncmbnddaa
/- Rows of any elements: pieces of memory, and append onto them. -/
namespace Go.Proofs.Ytmnpchncmbnddaa
open Go.RowKit

section
variable {w w' : World} {base base' n n' size : Nat} {e : TypeId} {v v' : Value} {xs xs' : List Value}
theorem rowT_keep (h : w.ownsRow base e size v n xs) (hk : ∀ k, v.ownBlock = some k → w'.heap[k]? = w.heap[k]?) : w'.ownsRow base e size v n xs := by
  refine ⟨h.1, ?_⟩
  rcases h.2 with h2 | ⟨g, cap, cur, hv, hb, hh, r⟩
  · exact .inl h2
  · exact .inr ⟨g, cap, cur, hv, hb, (hk g (by rw [hv]; rfl)).trans hh, r⟩
theorem rowT_lt (h : w.ownsRow base e size v n xs) {k : Nat} (hk : v.ownBlock = some k) : base ≤ k ∧ k < w.heap.size := by
  rcases h.2 with ⟨h2, _⟩ | ⟨g, cap, cur, hv, hg, hh, r⟩
  · rw [h2] at hk; cases hk
  · rw [hv] at hk
    injection hk with hk
    subst hk
    exact ⟨hg, (Array.getElem?_eq_some_iff.1 hh).1⟩
def Item.rowT (e : TypeId) (size : Nat) (v : Value) (n : Nat) (xs : List Value) : Item where
  own := fun k => v.ownBlock = some k
  P := fun w => w.ownsRow 0 e size v n xs
  keep := fun h hk => rowT_keep h hk
  lt := fun h hk => (rowT_lt h hk).2
theorem Turn.rowT (ho : w'.ownsRow 0 e size v' n' xs') (hg : w.grownBy w' v.ownBlock) (hf : v'.ownBlock = v.ownBlock ∨ v'.ownBlock = some w.heap.size) : Turn (Item.rowT e size v n xs) w (Item.rowT e size v' n' xs') w' :=
  ⟨ho, (Keeps.of_grown hg).mono (fun i hi => .inl hi.symm), fun k hk => by
    rcases hf with h | h
    · exact .inl (h.symm.trans hk)
    · have hk' : v'.ownBlock = some k := hk
      rw [h] at hk'; injection hk' with hk'; exact .inr (by omega)⟩
end
theorem wpIn_append_any {P : Program} {F : Fence} {N : Nat} {w : World} {o : Oper} {a : Act} {K : Act → World → Prop} {Q : Exit → Act → World → Prop} {s xo : Operand} {t tx : TypeId}
    (ho : o.op = .call { callee := .builtin .append, args := #[s, xo], argTypes := #[t, tx] })
    (base : Nat) {e : TypeId} {z : Value} {size bytes : Nat} (ht : P.underlying t = some (.slice e)) (hinfo : (P.info? e).map (fun i => (i.zero, i.size, i.bytes)) = some (some z, size, bytes))
    (hzs : z.cells.size = size) (hsz : 0 < size) (hb0 : 0 < bytes)
    {v : Value} {n : Nat} {xs : List Value} (hs : a.eval s = v) (hown : w.ownsRow base e size v n xs)
    {x : Value} {m : Nat} {news : List Value} (hx : a.eval xo = x) (hsrc : Src P size tx x m news w)
    (hbytes : (n + m) * bytes ≤ 140737488355328) (hbase : base ≤ w.heap.size)
    (h : ∀ v' w', w'.ownsRow base e size v' (n + m) (xs ++ news) → w.grownBy w' v.ownBlock → (v'.ownBlock = v.ownBlock ∨ v'.ownBlock = some w.heap.size) → K (a.put o.dst v') w') : o.wpIn F N P a w K Q := by
  obtain ⟨i, hi, hz, h4, h5⟩ := info_parts hinfo
  obtain ⟨v', w', hr, h2, h3, h4⟩ := run_append_any (P := P) w base t tx o.type e i z size bytes ht hi hz h4 h5 hzs hsz v n xs hown x m news hsrc hbytes hb0 hbase
  unfold Oper.wpIn
  refine ⟨?_, ?_⟩
  · simp [Oper.about, ho, resolve, Target.leads, Sem.run_pure]
  · rw [Oper.semAt_eq _ _ _ (by rw [ho]; intro c hc; cases hc)]
    unfold execOp
    simp only [ho, resolve, invoke, builtin, Sem.run_bind, Sem.run_pure, Result.andThen_ok, List.map_toArray, List.map_cons, List.map_nil, hs, hx, hr]
    exact h v' w' h2 h3 h4
end Go.Proofs.Ytmnpchncmbnddaa
