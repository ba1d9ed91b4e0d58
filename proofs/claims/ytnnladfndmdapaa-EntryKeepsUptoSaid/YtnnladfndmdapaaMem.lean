/- Pieces of memory that lie apart: blocks, rows of bytes, and what is made of them. -/
import Derived.Test.YtnnladfndmdapaaRws
namespace Go.Proofs.Ytnnladfndmdapaa
open Go.RowKit

/-- A piece of memory: its blocks, and what they hold. -/
structure Item where
  own : Nat → Prop
  P : World → Prop
  keep : ∀ {w w' : World}, P w → (∀ k, own k → w'.heap[k]? = w.heap[k]?) → P w'
  lt : ∀ {w : World} {k : Nat}, P w → own k → k < w.heap.size
def Item.blk (g : Nat) (t : TypeId) (cs : Array Value) : Item where
  own := fun k => k = g
  P := fun w => Blk w g t cs
  keep := fun h hk => (hk g rfl).trans h
  lt := fun h e => by subst e; exact Blk.lt h
def Item.row (v : Value) (l : List UInt8) : Item where
  own := fun k => v.ownBlock = some k
  P := fun w => BOwns w 0 v l
  keep := fun {w w'} h hk => by
    refine ⟨h.1, ?_⟩
    rcases h.2 with h2 | ⟨g, cap, cur, hv, hb, hh, r⟩
    · exact .inl h2
    · exact .inr ⟨g, cap, cur, hv, hb, (hk g (by rw [hv]; rfl)).trans hh, r⟩
  lt := fun h e => (h.lt e).2
/-- Pieces that lie apart. -/
def Item.all (L : List Item) : Item where
  own := fun k => ∃ i ∈ L, i.own k
  P := fun w => (∀ i ∈ L, i.P w) ∧ L.Pairwise fun (a b : Item) => ∀ k : Nat, a.own k → ¬ b.own k
  keep := fun h hk => ⟨fun i hi => i.keep (h.1 i hi) fun k ho => hk k ⟨i, hi, ho⟩, h.2⟩
  lt := fun h ⟨i, hi, ho⟩ => i.lt (h.1 i hi) ho
theorem Item.go {x : Item} {w w' : World} (h : x.P w) (hb : Below w.heap.size w w') : x.P w' := x.keep h fun k hk => hb.block k (x.lt h hk)
theorem Item.far {x : Item} {w w' : World} {S : Nat → Prop} (h : x.P w) (hk : Keeps S w w') (hs : ∀ k, x.own k → ¬ S k) : x.P w' := x.keep h fun k ho => hk.block k (x.lt h ho) (hs k ho)
/-- A piece has become another one; nothing else was written. -/
structure Turn (x : Item) (w : World) (y : Item) (w' : World) : Prop where
  p : y.P w'
  k : Keeps x.own w w'
  o : ∀ k, y.own k → x.own k ∨ w.heap.size ≤ k
section
variable {x y z a b : Item} {w w' w'' : World} {L M : List Item}
theorem Turn.refl (h : x.P w) : Turn x w x w := ⟨h, Keeps.refl _ _, fun _ h => .inl h⟩
theorem Turn.trans (h : Turn x w y w') (h' : Turn y w' z w'') : Turn x w z w'' :=
  ⟨h'.p, h.k.trans h'.k (fun i hi => h.o i hi), fun k hk => by
    rcases h'.o k hk with h1 | h1
    · exact h.o k h1
    · exact .inr (Nat.le_trans h.k.size h1)⟩
theorem Turn.go (h : Turn x w y w') (hb : Below w'.heap.size w' w'') : Turn x w y w'' :=
  ⟨Item.go h.p hb, h.k.trans (Keeps.of_below hb (fun _ => False)) (fun _ h => h.elim), h.o⟩
theorem Turn.pre (hb : Below w.heap.size w w') (h : Turn x w' y w'') : Turn x w y w'' :=
  ⟨h.p, (Keeps.of_below hb x.own).trans h.k (fun i hi => .inl hi), fun k hk => by
    rcases h.o k hk with h1 | h1
    · exact .inl h1
    · exact .inr (Nat.le_trans hb.size h1)⟩
theorem Turn.below {B : Nat} (h : Turn x w y w') (hB : B ≤ w.heap.size) (ho : ∀ k, x.own k → B ≤ k) : Below B w w' := h.k.below hB ho
theorem Item.all_get (h : (Item.all L).P w) (hx : x ∈ L) : x.P w := h.1 x hx
theorem Item.all_perm (h : (Item.all L).P w) (hp : L.Perm M) : (Item.all M).P w :=
  ⟨fun i hi => h.1 i (hp.mem_iff.2 hi), hp.pairwise h.2 (fun {a b} hab k hb ha => hab k ha hb)⟩
/-- A piece more, all of it new. -/
theorem Item.all_add (h : (Item.all L).P w) (hb : Below w.heap.size w w') (hy : y.P w') (ho : ∀ k, y.own k → w.heap.size ≤ k) : (Item.all (y :: L)).P w' :=
  ⟨fun i hi => by
    rcases List.mem_cons.1 hi with rfl | hi
    · exact hy
    · exact Item.go (h.1 i hi) hb, List.pairwise_cons.2 ⟨fun i hi k h1 h2 => by have := ho k h1; have := i.lt (h.1 i hi) h2; omega, h.2⟩⟩
/-- The first of the pieces has become another one. -/
theorem Item.all_head (h : (Item.all (x :: L)).P w) (t : Turn x w y w') : (Item.all (y :: L)).P w' := by
  have h1 := List.pairwise_cons.1 h.2
  have hx : ∀ i ∈ L, i.P w := fun i hi => h.1 i (List.mem_cons_of_mem _ hi)
  refine ⟨fun i hi => ?_, List.pairwise_cons.2 ⟨fun i hi k hk hk2 => ?_, h1.2⟩⟩
  · rcases List.mem_cons.1 hi with rfl | hi
    · exact t.p
    · exact Item.far (hx i hi) t.k fun k hk hk2 => h1.1 i hi k hk2 hk
  · rcases t.o k hk with h2 | h2
    · exact h1.1 i hi k h2 hk2
    · have := i.lt (hx i hi) hk2; omega
theorem Turn.head (h : (Item.all (x :: L)).P w) (t : Turn x w y w') : Turn (Item.all (x :: L)) w (Item.all (y :: L)) w' :=
  ⟨Item.all_head h t, t.k.mono (fun i hi => .inl ⟨x, List.mem_cons_self .., hi⟩), fun k ⟨i, hi, hk⟩ => by
    rcases List.mem_cons.1 hi with rfl | hi
    · rcases t.o k hk with h1 | h1
      · exact .inl ⟨x, List.mem_cons_self .., h1⟩
      · exact .inr h1
    · exact .inl ⟨i, List.mem_cons_of_mem _ hi, hk⟩⟩
theorem Turn.second (h : (Item.all (a :: x :: L)).P w) (t : Turn x w y w') : Turn (Item.all (a :: x :: L)) w (Item.all (a :: y :: L)) w' := by
  have hp := Item.all_perm h (List.Perm.swap x a L)
  have t1 := Turn.head hp t
  exact ⟨Item.all_perm t1.p (List.Perm.swap a y L), t1.k.mono (fun i ⟨j, hj, hk⟩ => .inl ⟨j, (List.Perm.swap x a L).mem_iff.2 hj, hk⟩), fun k ⟨i, hi, hk⟩ => by
    rcases t1.o k ⟨i, (List.Perm.swap a y L).mem_iff.2 hi, hk⟩ with ⟨j, hj, h2⟩ | h2
    · exact .inl ⟨j, (List.Perm.swap x a L).mem_iff.2 hj, h2⟩
    · exact .inr h2⟩
theorem Turn.new (h : (Item.all L).P w) (hb : Below w.heap.size w w') (hy : y.P w') (ho : ∀ k, y.own k → w.heap.size ≤ k) : Turn (Item.all L) w (Item.all (y :: L)) w' :=
  ⟨Item.all_add h hb hy ho, Keeps.of_below hb _, fun k ⟨i, hi, hk⟩ => by
    rcases List.mem_cons.1 hi with rfl | hi
    · exact .inr (ho k hk)
    · exact .inl ⟨i, hi, hk⟩⟩
theorem Turn.drop (h : Turn x w (Item.all (y :: L)) w') : Turn x w (Item.all L) w' :=
  ⟨⟨fun i hi => h.p.1 i (List.mem_cons_of_mem _ hi), (List.pairwise_cons.1 h.p.2).2⟩, h.k, fun k ⟨i, hi, hk⟩ => h.o k ⟨i, List.mem_cons_of_mem _ hi, hk⟩⟩
/-- The same with the pieces in another order. -/
theorem Turn.perm (h : Turn (Item.all L) w y w') (hp : L.Perm M) : Turn (Item.all M) w y w' :=
  ⟨h.p, h.k.mono (fun i ⟨j, hj, hk⟩ => .inl ⟨j, hp.mem_iff.1 hj, hk⟩), fun k hk => by
    rcases h.o k hk with ⟨j, hj, h2⟩ | h2
    · exact .inl ⟨j, hp.mem_iff.1 hj, h2⟩
    · exact .inr h2⟩
theorem Turn.permR (h : Turn x w (Item.all L) w') (hp : L.Perm M) : Turn x w (Item.all M) w' :=
  ⟨Item.all_perm h.p hp, h.k, fun k ⟨j, hj, hk⟩ => h.o k ⟨j, hp.mem_iff.2 hj, hk⟩⟩
/-- One of the pieces has become another one. -/
theorem Turn.set {i : Nat} (h : (Item.all L).P w) (hi : L[i]? = some x) (t : Turn x w y w') : Turn (Item.all L) w (Item.all (L.set i y)) w' := by
  obtain ⟨hlt, he⟩ := List.getElem?_eq_some_iff.1 hi
  have e1 : L = L.take i ++ x :: L.drop (i + 1) := by rw [← he, ← List.drop_eq_getElem_cons hlt, List.take_append_drop]
  have e2 : L.set i y = L.take i ++ y :: L.drop (i + 1) := by rw [List.set_eq_take_append_cons_drop, if_pos hlt]
  rw [e2]
  have p1 : L.Perm (x :: (L.take i ++ L.drop (i + 1))) := by
    have := List.perm_middle (a := x) (l₁ := L.take i) (l₂ := L.drop (i + 1))
    rwa [← e1] at this
  have hp := Item.all_perm h p1
  exact ((Turn.head hp t).perm p1.symm).permR (List.perm_middle (a := y) (l₁ := L.take i) (l₂ := L.drop (i + 1))).symm
theorem Turn.wide (h : Turn x w y w') (hz : z.P w) (ho : ∀ k, x.own k → z.own k) (hy : ∀ k, y.own k → z.own k ∨ w.heap.size ≤ k) : Turn z w y w' :=
  ⟨h.p, h.k.mono (fun i hi => .inl (ho i hi)), hy⟩
/-- A cell of a block is written. -/
theorem Turn.cell {g : Nat} {t : TypeId} {cs : Array Value} (h : Blk w g t cs) (i : Nat) (u : Value) : Turn (Item.blk g t cs) w (Item.blk g t (cs.setIfInBounds i u)) (w.setCell ⟨g, i, none⟩ u) :=
  ⟨h.set_ i u, (Keeps.refl (fun k => k = g) w).setCell (p := ⟨g, i, none⟩) (.inl rfl) u, fun k hk => .inl hk⟩
/-- A row of bytes has become another one. -/
theorem Turn.row {v v' : Value} {l l' : List UInt8} {base : Nat} (ho : BOwns w' base v' l') (hk : Keeps (fun k => some k = v.ownBlock) w w') (hf : v'.ownBlock = v.ownBlock ∨ ∀ k, v'.ownBlock = some k → w.heap.size ≤ k) :
    Turn (Item.row v l) w (Item.row v' l') w' :=
  ⟨owns_less ho (Nat.zero_le _), hk.mono (fun i hi => .inl hi.symm), fun k hk => by
    rcases hf with h | h
    · exact .inl (h.symm.trans hk)
    · exact .inr (h k hk)⟩
end
end Go.Proofs.Ytnnladfndmdapaa
