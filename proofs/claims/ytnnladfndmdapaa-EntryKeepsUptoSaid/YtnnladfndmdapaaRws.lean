/- Rows of bytes with spare room, filled and grown: words for laws on new memory. -/
import Derived.Test.YtnnladfndmdapaaOwn
import Derived.Test.YtnnladfndmdapaaEqual
namespace Go.Proofs.Ytnnladfndmdapaa
open Go.RowKit

theorem BOwns.keepsB {S : Nat → Prop} {w w' : World} {base : Nat} {v : Value} {l : List UInt8} (h : BOwns w base v l) (hk : Keeps S w w') (hs : ∀ k, v.ownBlock = some k → ¬ S k) : BOwns w' base v l := by
  refine ⟨h.1, ?_⟩
  rcases h.2 with h2 | ⟨g, cap, cur, hv, hg, hh, r⟩
  · exact .inl h2
  · have hb : Blk w g 5 cur := hh
    exact .inr ⟨g, cap, cur, hv, hg, hb.keeps hk (hs g (by rw [hv]; rfl)), r⟩
theorem BOwns.lt {w : World} {base : Nat} {v : Value} {l : List UInt8} (h : BOwns w base v l) {k : Nat} (hk : v.ownBlock = some k) : base ≤ k ∧ k < w.heap.size := by
  rcases h.2 with ⟨h2, _⟩ | ⟨g, cap, cur, hv, hg, hh, r⟩
  · rw [h2] at hk; cases hk
  · have hb : Blk w g 5 cur := hh
    rw [hv] at hk
    injection hk with hk
    subst hk
    exact ⟨hg, hb.lt⟩
theorem BOwns.reads {w : World} {base n c : Nat} {A : Option Addr} {l : List UInt8} (h : BOwns w base (.slice A n c) l) : BReads w w.heap.size A l := by
  obtain ⟨A', c', e, _, hr⟩ := BOwns.slice h
  injection e with e1
  subst e1
  exact hr
theorem own_block {g n c : Nat} : (Value.slice (some ⟨g, 0, none⟩) n c).ownBlock = some g := rfl
/-- What a row has come to while it is filled. -/
def fillL (x : UInt8) (i : Nat) (l : List UInt8) : List UInt8 := List.replicate i x ++ l.drop i
theorem fillL_length {x : UInt8} {i : Nat} {l : List UInt8} (h : i ≤ l.length) : (fillL x i l).length = l.length := by
  unfold fillL; rw [List.length_append, List.length_replicate, List.length_drop]; omega
theorem fillL_zero (x : UInt8) (l : List UInt8) : fillL x 0 l = l := rfl
theorem fillL_full (x : UInt8) (l : List UInt8) : fillL x l.length l = List.replicate l.length x := by
  unfold fillL; rw [List.drop_length, List.append_nil]
theorem fillL_set {x : UInt8} {i : Nat} {l : List UInt8} (h : i < l.length) : (fillL x i l).set i x = fillL x (i + 1) l := by
  unfold fillL
  rw [List.set_append_right _ _ (by simp), List.length_replicate, Nat.sub_self, List.drop_eq_getElem_cons h, List.set_cons_zero, List.replicate_succ', List.append_assoc]
  rfl
theorem bowns_len {w : World} {base n c : Nat} {A : Option Addr} {l : List UInt8} (h : BOwns w base (.slice A n c) l) : n = l.length := by
  obtain ⟨A', c', e, _, _⟩ := BOwns.slice h; injection e
/-- A row while a byte of it is written. -/
theorem fill_step {w0 w : World} {base n c i : Nat} {A : Option Addr} {l : List UInt8} {x : UInt8} {m : Int} (h : BOwns w base (.slice A n c) (fillL x i l)) (hi : i < l.length) (hm : m = (x.toNat : Int)) (hk : Keeps (fun k => some k = (Value.slice A n c).ownBlock) w0 w) :
    ∃ g u, A = some ⟨g, 0, none⟩ ∧ w.frozen? ⟨g, i, none⟩ = false ∧ w.cell? ⟨g, i, none⟩ = some u ∧ Hid (BOwns (w.setCell ⟨g, i, none⟩ (.int .u8 m)) base (.slice A n c) (fillL x (i + 1) l)) ∧
      Hid (Keeps (fun k => some k = (Value.slice A n c).ownBlock) w0 (w.setCell ⟨g, i, none⟩ (.int .u8 m))) := by
  have hl := fillL_length (x := x) (l := l) (Nat.le_of_lt hi)
  have hn := bowns_len h
  obtain ⟨g, rfl, h1, h2, h3, h4⟩ := BOwns.block h (by omega)
  subst hm
  have hs := BOwns.store h (i := i) (by omega) x
  rw [fillL_set hi] at hs
  exact ⟨g, _, rfl, h3 i, h4 i (by omega), Lib.hid hs, Lib.hid (hk.setCell (p := ⟨g, i, none⟩) (.inl rfl) _)⟩
/-- A row of the call's own that grows by one byte. -/
structure Grows (w0 w : World) (base : Nat) (row : Option Nat) (v : Value) (l : List UInt8) : Prop where
  own : BOwns w base v l
  grown : w0.grownBy w row
  from_ : OwnFrom w0 row v
  le : base ≤ w0.heap.size
theorem Grows.start {w : World} {base : Nat} {v : Value} {l : List UInt8} (h : BOwns w base v l) (hb : base ≤ w.heap.size) : Grows w w base v.ownBlock v l := ⟨h, World.grownBy.refl _ _, .inl rfl, hb⟩
theorem Grows.step {w0 w w1 : World} {base : Nat} {row : Option Nat} {v v' : Value} {l : List UInt8} {o : Obj} {m : List UInt8} (h : Grows w0 w base row v l) (ho : BOwns w1 base v' (l ++ m)) (hg : (w.alloc o).grownBy w1 v.ownBlock) (hf : v'.ownBlock = v.ownBlock ∨ v'.ownBlock = some (w.alloc o).heap.size) : Grows w0 w1 base row v' (l ++ m) :=
  ⟨ho, grown_step (grown_alloc h.grown _) h.from_ hg, OwnFrom.step h.from_ (by have := h.grown.size; simp; omega) hf, h.le⟩
theorem Grows.keeps {w0 w : World} {base : Nat} {row : Option Nat} {v : Value} {l : List UInt8} (h : Grows w0 w base row v l) : Keeps (fun k => some k = row) w0 w := Keeps.of_grown h.grown
theorem Grows.far {w0 w : World} {base : Nat} {row : Option Nat} {v : Value} {l : List UInt8} (h : Grows w0 w base row v l) {k : Nat} (hk : k < w0.heap.size) (hr : row ≠ some k) : v.ownBlock ≠ some k := fun e => by
  rcases h.from_ with h1 | h1
  · exact hr (h1.symm.trans e)
  · have := h1 k e; omega
theorem rep_snoc (l : List UInt8) (K : Nat) (x : UInt8) : l ++ List.replicate K x ++ [x] = l ++ List.replicate (K + 1) x := by
  rw [List.append_assoc, List.replicate_succ']

/-- Rows of the call's own, each in a block of its own. -/
structure Rws (w0 w : World) (rs : List (Value × List UInt8)) : Prop where
  own : ∀ r ∈ rs, BOwns w w0.heap.size r.1 r.2
  sep : rs.Pairwise fun a b => ∀ k, a.1.ownBlock = some k → b.1.ownBlock ≠ some k
  bel : Below w0.heap.size w0 w
section
variable {w0 w w' : World} {rs : List (Value × List UInt8)} {v v' u : Value} {l l' m : List UInt8}
theorem Rws.nil (h : Below w0.heap.size w0 w) : Rws w0 w [] := ⟨fun _ h => (by cases h), List.Pairwise.nil, h⟩
theorem Rws.go (h : Rws w0 w rs) (hb : Below w.heap.size w w') : Rws w0 w' rs := ⟨fun r hr => (h.own r hr).below hb, h.sep, h.bel.trans (hb.mono h.bel.size)⟩
theorem Rws.new (h : Rws w0 w rs) (ho : BOwns w' w.heap.size v l) (hb : Below w.heap.size w w') : Rws w0 w' ((v, l) :: rs) := by
  refine ⟨fun r hr => ?_, List.pairwise_cons.2 ⟨fun r hr k e1 e2 => ?_, h.sep⟩, h.bel.trans (hb.mono h.bel.size)⟩
  · rcases List.mem_cons.1 hr with rfl | hr
    · exact owns_less ho h.bel.size
    · exact (h.own r hr).below hb
  · have := (ho.lt e1).1; have := ((h.own r hr).lt e2).2; omega
theorem Rws.swap (h : Rws w0 w ((v, l) :: (u, m) :: rs)) : Rws w0 w ((u, m) :: (v, l) :: rs) := by
  have h1 := List.pairwise_cons.1 h.sep
  have h2 := List.pairwise_cons.1 h1.2
  refine ⟨fun r hr => h.own r (by simp only [List.mem_cons] at hr ⊢; rcases hr with h | h | h <;> simp [h]), List.pairwise_cons.2 ⟨fun r hr k e1 e2 => ?_, List.pairwise_cons.2 ⟨fun r hr => h1.1 r (List.mem_cons_of_mem _ hr), h2.2⟩⟩, h.bel⟩
  rcases List.mem_cons.1 hr with rfl | hr
  · exact h1.1 _ (List.mem_cons_self ..) k e2 e1
  · exact h2.1 r hr k e1 e2
theorem Rws.rot3 {x : Value} {lx : List UInt8} (h : Rws w0 w ((v, l) :: (u, m) :: (x, lx) :: rs)) : Rws w0 w ((x, lx) :: (v, l) :: (u, m) :: rs) := by
  have h1 := List.pairwise_cons.1 h.sep
  have h2 := List.pairwise_cons.1 h1.2
  have h3 := List.pairwise_cons.1 h2.2
  refine ⟨fun r hr => h.own r (by simp only [List.mem_cons] at hr ⊢; rcases hr with h | h | h | h <;> simp [h]), List.pairwise_cons.2 ⟨fun r hr k e1 e2 => ?_, List.pairwise_cons.2 ⟨fun r hr k e1 e2 => ?_, List.pairwise_cons.2 ⟨fun r hr => h2.1 r (List.mem_cons_of_mem _ hr), h3.2⟩⟩⟩, h.bel⟩
  · rcases List.mem_cons.1 hr with rfl | hr
    · exact h1.1 _ (by simp) k e2 e1
    · rcases List.mem_cons.1 hr with rfl | hr
      · exact h2.1 _ (by simp) k e2 e1
      · exact h3.1 r hr k e1 e2
  · rcases List.mem_cons.1 hr with rfl | hr
    · exact h1.1 _ (by simp) k e1 e2
    · exact h1.1 r (by simp [hr]) k e1 e2
theorem Rws.tail (h : Rws w0 w ((v, l) :: rs)) : Rws w0 w rs := ⟨fun r hr => h.own r (List.mem_cons_of_mem _ hr), (List.pairwise_cons.1 h.sep).2, h.bel⟩
theorem Rws.turn (h : Rws w0 w ((v, l) :: rs)) (ho : BOwns w' w0.heap.size v' l') (hk : Keeps (fun k => some k = v.ownBlock) w w') (hne : ∀ k, v'.ownBlock = some k → ∀ r ∈ rs, r.1.ownBlock ≠ some k) : Rws w0 w' ((v', l') :: rs) := by
  have h1 := List.pairwise_cons.1 h.sep
  refine ⟨fun r hr => ?_, List.pairwise_cons.2 ⟨fun r hr k e => hne k e r hr, h1.2⟩, h.bel.trans (hk.below h.bel.size (fun i hi => ((h.own _ (List.mem_cons_self ..)).lt hi.symm).1))⟩
  rcases List.mem_cons.1 hr with rfl | hr
  · exact ho
  · exact (h.own r (List.mem_cons_of_mem _ hr)).keepsB hk (fun k e e' => h1.1 r hr k e'.symm e)
theorem Rws.head (h : Rws w0 w ((v, l) :: rs)) : BOwns w w0.heap.size v l := h.own _ (List.mem_cons_self ..)
theorem Rws.fill (h : Rws w0 w ((v, l) :: rs)) (ho : BOwns w' w0.heap.size v l') (hk : Keeps (fun k => some k = v.ownBlock) w w') : Rws w0 w' ((v, l') :: rs) :=
  h.turn ho hk fun k e r hr => (List.pairwise_cons.1 h.sep).1 r hr k e
theorem Rws.grow (h : Rws w0 w ((v, l) :: rs)) (hg : Grows w w' w0.heap.size v.ownBlock v' l') : Rws w0 w' ((v', l') :: rs) :=
  h.turn hg.own hg.keeps fun k e r hr e2 => hg.far ((h.own r (List.mem_cons_of_mem _ hr)).lt e2).2 (fun e3 => (List.pairwise_cons.1 h.sep).1 r hr k e3 e2) e
theorem Rws.turnBlk {g : Nat} {t : TypeId} {cs : Array Value} (h : Rws w0 w rs) (hb : Blk w g t cs) (ht : 5 ≠ t) (hk : Keeps (fun k => k = g) w w') (hg : w0.heap.size ≤ g) : Rws w0 w' rs :=
  ⟨fun r hr => (h.own r hr).keepsB hk (fun k e e' => by
    subst e'
    rcases (h.own r hr).2 with ⟨h2, _⟩ | ⟨g', cap, cur, hv, _, hh, _⟩
    · rw [h2] at e; cases e
    · rw [hv] at e
      have e' : g' = k := Option.some.inj e
      subst e'
      unfold Blk at hb
      rw [hb] at hh
      injection hh with hh
      injection hh with _ hh
      exact ht hh.symm), h.sep, h.bel.trans (hk.below h.bel.size (fun i hi => by omega))⟩
/-- A block of another type stays while a row is written. -/
theorem Rws.blk {g : Nat} {t : TypeId} {cs : Array Value} (h : BOwns w w0.heap.size v l) (hb : Blk w g t cs) (ht : 5 ≠ t) (hk : Keeps (fun k => some k = v.ownBlock) w w') : Blk w' g t cs := by
  refine hb.keeps hk fun e => ?_
  rcases h.2 with ⟨h2, _⟩ | ⟨g', cap, cur, hv, hg, hh, r⟩
  · rw [h2] at e; cases e
  · rw [hv] at e
    have e' : g = g' := Option.some.inj e
    subst e'
    unfold Blk at hb
    rw [hb] at hh
    injection hh with hh
    injection hh with _ hh
    exact ht hh.symm
end

end Go.Proofs.Ytnnladfndmdapaa
