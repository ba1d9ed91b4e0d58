/- Contracts and plain laws that this claim leans on, laid together: WalK, Wal6. -/
import Derived.Test.YtnnladfndmdapaaG17
set_option linter.all false
set_option linter.unusedVariables false
set_option linter.unusedSimpArgs false
set_option linter.unnecessarySimpa false
/- For the laws about logs: pieces of memory that a law holds, lists of entries in them, a log alone on its disk. -/
namespace Go.Proofs.Ytnnladfndmdapaa
open Go.RowKit

section
variable {w w' : World} {a x y : Item} {L : List Item}
theorem Turn.one (h : Turn a w x w') : Turn a w (Item.all [x]) w' :=
  ⟨⟨fun i hi => by simp only [List.mem_cons, List.not_mem_nil, or_false] at hi; subst hi; exact h.p, List.pairwise_singleton _ _⟩, h.k, fun k ⟨i, hi, hk⟩ => by simp only [List.mem_cons, List.not_mem_nil, or_false] at hi; subst hi; exact h.o k hk⟩
theorem Turn.none_ : Turn (Item.all []) w (Item.all []) w := Turn.refl ⟨fun _ h => (by cases h), List.Pairwise.nil⟩
theorem Turn.add (h : Turn a w (Item.all (x :: L)) w') {w'' : World} (hb : Below w'.heap.size w' w'') (hy : y.P w'') (ho : ∀ k, y.own k → w'.heap.size ≤ k) : Turn a w (Item.all (x :: y :: L)) w'' := (h.more hb hy ho).permR (List.Perm.swap _ _ _)
theorem row_new {e : TypeId} {cs : Array Value} {size n : Nat} (hs : cs.size = n * size) (hn : n ≤ 281474976710656) : (w.alloc (.cells cs e)).ownsRow 0 e size (.slice (some ⟨w.heap.size, 0, none⟩) n n) n cs.toList :=
  ⟨by rw [Array.length_toList, hs], .inr ⟨w.heap.size, n, cs, rfl, Nat.zero_le _, World.alloc_heap_new w _, Nat.le_refl _, by unfold maxLen; omega, hs, by rw [← hs, ← Array.length_toList, List.take_length]⟩⟩
theorem own_new {g n c k : Nat} (h : (Value.slice (some ⟨g, 0, none⟩) n c).ownBlock = some k) : g ≤ k := by injection h with h; exact Nat.le_of_eq h
/-- A literal slice, laid behind the first piece. -/
theorem Turn.lit (h : Turn a w (Item.all (x :: L)) w') {e : TypeId} {cs : Array Value} {xs : List Value} {size n : Nat} (hs : cs.size = n * size) (hx : cs.toList = xs) (hn : n ≤ 281474976710656) : Turn a w (Item.all (x :: Item.rowT e size (.slice (some ⟨w'.heap.size, 0, none⟩) n n) n xs :: L)) (w'.alloc (.cells cs e)) :=
  h.add ((Below.refl _ _).alloc (Nat.le_refl _) _) (by rw [← hx]; exact row_new hs hn) (fun k hk => own_new hk)
theorem Turn.litB (h : Turn a w (Item.all (x :: L)) w') {cs : Array Value} {l : List UInt8} (hx : cs.toList = bys l) (hn : l.length ≤ 281474976710656) : Turn a w (Item.all (x :: Item.row (.slice (some ⟨w'.heap.size, 0, none⟩) l.length l.length) l :: L)) (w'.alloc (.cells cs 5)) :=
  h.add ((Below.refl _ _).alloc (Nat.le_refl _) _) (by
    have e : cs.size = l.length * 1 := by rw [← Array.length_toList, hx, bys_length, Nat.mul_one]
    have := row_new (w := w') (e := 5) e hn
    rw [hx] at this; exact this) (fun k hk => own_new hk)
/-- Entries in a row of one's own, and their values. -/
theorem sl_of_row {B : Nat} {A : Option Addr} {c n : Nat} {ts : List Told} (h : (Item.rowT 25 6 (.slice A n c) n (toldCells ts)).P w) (hn : n = ts.length) (hB : ∀ k, (Value.slice A n c).ownBlock = some k → k < B) (hv : ∀ t ∈ ts, t.x.ints ∧ BReads w B t.A t.x.value ∧ t.x.value.length ≤ t.c) : kEn.Sl w B A (ts.map Told.x) := by
  intro hl
  rw [List.length_map] at hl
  have h' : w.ownsRow 0 25 6 (.slice A n c) n (toldCells ts) := h
  rcases h'.2 with ⟨h2, h3⟩ | ⟨g, cap, cur, hv1, _, hh, h4, h5, h6, h7⟩
  · omega
  injection hv1 with hv1
  subst hv1
  refine ⟨g, 0, rfl, hB g rfl, fun j x hx => ?_⟩
  rw [List.getElem?_map] at hx
  obtain ⟨t, ht, rfl⟩ := Option.map_eq_some_iff.1 hx
  have hm := List.mem_of_getElem? ht
  obtain ⟨⟨⟨k1, k2⟩, ⟨s1, s2⟩, ⟨c1, c2⟩⟩, hr, hcap⟩ := hv t hm
  refine ⟨(t.x.cells t.A t.c).toList, ?_, fun i u hu => ?_⟩
  · have wf : ∀ z : Int, -9223372036854775808 ≤ z → z ≤ 9223372036854775807 → (Lit.int .i64 z).wf = true := fun z h1 h2 => by simp [Lit.wf, IntKind.min, IntKind.max, IntKind.signed, IntKind.bits]; omega
    exact ⟨[_], _, rfl, ⟨rfl, wf _ k1 k2⟩, [_], _, rfl, ⟨rfl, wf _ s1 s2⟩, [_], _, rfl, ⟨rfl, wf _ c1 c2⟩, [_], _, rfl, rfl, [_], [_], rfl, ⟨t.A, t.c, rfl, hcap, hr⟩, rfl⟩
  · have hj : j < ts.length := (List.getElem?_eq_some_iff.1 ht).1
    have hi : i < 6 := (List.getElem?_eq_some_iff.1 hu).1
    have e1 : (toldCells ts)[j * 6 + i]? = some u := by
      unfold toldCells
      rw [List.flatMap_def]
      have := flat_get (L := ts.map fun t => (t.x.cells t.A t.c).toList) (n := 6) (i := j) (j := i) (x := (t.x.cells t.A t.c).toList) (fun x hx => by obtain ⟨t', _, rfl⟩ := List.mem_map.1 hx; rfl) (by rw [List.getElem?_map, ht]; rfl) hi
      rw [this]; exact hu
    have hlt : j * 6 + i < n * 6 := by omega
    rw [← h7, List.getElem?_take_of_lt hlt] at e1
    show w.cell? ⟨g, 0 + j * 6 + i, none⟩ = some u
    rw [Nat.zero_add]
    unfold World.cell?
    simp only [hh]
    simpa using e1
end
/-- A log alone on its disk. -/
def lg (gl g gp : Nat) (ar : Bool) (p : Pt) : Item := lgItem gl ⟨g, gp, ar, [p]⟩ 0
theorem may_size {es : List En} (hm : ∀ e ∈ es, e.may) : ∀ e ∈ es, e.key.size ≤ 140737488355328 ∧ e.value.length ≤ 140737488355328 := fun e he => by
  have := En.may_bounds (hm e he)
  exact ⟨by omega, by omega⟩
section
variable {w0 w : World} {x : Item} {rest : List Item} {A : Option Addr} {c n : Nat} {es : List En} {ts : List Told}
theorem stays_args (hf : ∀ k, x.own k → w0.heap.size ≤ k) (hb : Below w0.heap.size w0 w) (h : kEn.Sl w0 w0.heap.size A es) : Stays x.own w (fun w' => kEn.Sl w' w.heap.size A es) := fun w' hk =>
  (h.keep (fun p hp => World.cell?_of_block ((hk p.block (Nat.lt_of_lt_of_le hp hb.size) (fun ho => by have := hf _ ho; omega)).trans (hb.block _ hp)))).more hb.size
theorem stays_row (hT : (Item.all (x :: rest)).P w) (hi : Item.rowT 25 6 (.slice A n c) n (toldCells ts) ∈ rest) (hn : n = ts.length) (hv : ∀ w' : World, (∀ k, k < w.heap.size → ¬ x.own k → w'.heap[k]? = w.heap[k]?) → ∀ t ∈ ts, t.x.ints ∧ BReads w' w.heap.size t.A t.x.value ∧ t.x.value.length ≤ t.c) :
    Stays x.own w (fun w' => kEn.Sl w' w.heap.size A (ts.map Told.x)) := fun w' hk => by
  have hp := Item.all_get hT (List.mem_cons_of_mem _ hi)
  have hd := (List.pairwise_cons.1 hT.2).1 _ hi
  exact sl_of_row (Item.keep _ hp fun k ho => hk k (Item.lt _ hp ho) (fun h => hd k h ho)) hn (fun k ho => Item.lt _ hp ho) (hv w' hk)
theorem stays_old {B : Nat} (hf : ∀ k, x.own k → B ≤ k) (hB : B ≤ w.heap.size) (h : ∀ t ∈ ts, t.x.ints ∧ BReads w B t.A t.x.value ∧ t.x.value.length ≤ t.c) :
    ∀ w' : World, (∀ k, k < w.heap.size → ¬ x.own k → w'.heap[k]? = w.heap[k]?) → ∀ t ∈ ts, t.x.ints ∧ BReads w' w.heap.size t.A t.x.value ∧ t.x.value.length ≤ t.c := fun w' hk t ht => by
  obtain ⟨h1, h2, h3⟩ := h t ht
  exact ⟨h1, (Reads.keep h2 (fun p hp => World.cell?_of_block (hk p.block (Nat.lt_of_lt_of_le hp hB) (fun ho => by have := hf _ ho; omega)))).more hB, h3⟩
theorem told_go {B : Nat} {w w' : World} {ts : List Told} (h : ∀ t ∈ ts, t.x.ints ∧ BReads w B t.A t.x.value ∧ t.x.value.length ≤ t.c) (hb : Below B w w') : ∀ t ∈ ts, t.x.ints ∧ BReads w' B t.A t.x.value ∧ t.x.value.length ≤ t.c := fun t ht => by
  obtain ⟨h1, h2, h3⟩ := h t ht
  exact ⟨h1, h2.below hb, h3⟩
theorem told_back {B : Nat} {w w' : World} {ts : List Told} (h : ∀ t ∈ ts, t.x.ints ∧ BReads w' B t.A t.x.value ∧ t.x.value.length ≤ t.c) (hb : Below B w w') : ∀ t ∈ ts, t.x.ints ∧ BReads w B t.A t.x.value ∧ t.x.value.length ≤ t.c := fun t ht => by
  obtain ⟨h1, h2, h3⟩ := h t ht
  exact ⟨h1, Reads.keep h2 (fun p hp => (hb.cell hp).symm), h3⟩
theorem stays_rows (hT : (Item.all (x :: rest)).P w) (h : ∀ t ∈ ts, t.x.ints ∧ Item.row (.slice t.A t.x.value.length t.c) t.x.value ∈ rest) :
    ∀ w' : World, (∀ k, k < w.heap.size → ¬ x.own k → w'.heap[k]? = w.heap[k]?) → ∀ t ∈ ts, t.x.ints ∧ BReads w' w.heap.size t.A t.x.value ∧ t.x.value.length ≤ t.c := fun w' hk t ht => by
  obtain ⟨h1, h2⟩ := h t ht
  have hp := Item.all_get hT (List.mem_cons_of_mem _ h2)
  have hd := (List.pairwise_cons.1 hT.2).1 _ h2
  have hp' := Item.keep _ hp fun k ho => hk k (Item.lt _ hp ho) (fun h => hd k h ho)
  have ho : BOwns w' 0 (.slice t.A t.x.value.length t.c) t.x.value := hp'
  obtain ⟨A1, c1, e, hc, _⟩ := BOwns.slice ho
  injection e with e1 _ e2
  subst e2
  refine ⟨h1, ⟨ho.reads.1, fun hl => ?_⟩, hc⟩
  obtain ⟨b, off, hA, _, hcl⟩ := ho.reads.2 hl
  exact ⟨b, off, hA, Item.lt _ hp (show (Value.slice t.A _ _).ownBlock = some b from by rw [hA]; rfl), hcl⟩
end
section
variable {w : World} {gl g gp : Nat} {p : Pt} {A : Option Addr} {c : Nat} {es : List En}
theorem write_ok (h : (lg gl g gp false p).P w) (hd0 : 0 ≤ p.done) (hd1 : p.done ≤ 100000000000000000) (hS : Stays (lg gl g gp false p).own w (fun w' => kEn.Sl w' w.heap.size A es)) (hm : ∀ e ∈ es, e.may) (htot : p.a.l.length + 5009 * es.length ≤ 140737488355328) :
    Calls Try.prog 43 #[.pointer (some ⟨gl, 0, none⟩), .slice A es.length c] w fun e w' => e = .returned (.int .i64 0) ∧ ∃ q : Pt, q.a.base = p.a.base ∧ q.a.safe = p.a.safe ∧ q.a.l = p.a.l ++ framesF es ∧ q.done = p.done + es.length ∧ Turn (lg gl g gp false p) w (lg gl g gp false q) w' := by
  refine (lWrite_any (d := ⟨g, gp, false, [p]⟩) 0 (p := p) h (by simp) rfl hd0 hd1 hS (may_size hm) htot).mono ?_
  rintro e w' ⟨K, A', c', m, hK, rfl, _, _, hc, hT⟩
  rcases hc with ⟨rfl, rfl⟩ | ⟨rfl, hK, hn⟩ | ⟨_, _, h, _⟩
  · rw [List.take_length] at hT
    exact ⟨rfl, { p with a := { p.a with A := A', c := c', l := p.a.l ++ framesF es }, done := p.done + es.length }, rfl, rfl, rfl, rfl, hT⟩
  · exact absurd (hm _ (List.getElem_mem hK)) hn
  · cases h
theorem group_ok (h : (lg gl g gp false p).P w) (hd0 : 0 ≤ p.done) (hd1 : p.done ≤ 100000000000000000) (hS : Stays (lg gl g gp false p).own w (fun w' => kEn.Sl w' w.heap.size A es)) (hm : ∀ e ∈ es, e.may) (htot : p.a.l.length + 5009 * es.length ≤ 140737488355328) :
    Calls Try.prog 39 #[.pointer (some ⟨gl, 0, none⟩), .slice A es.length c] w fun e w' => e = .returned (.int .i64 0) ∧ ∃ q : Pt, q.a.base = p.a.base ∧ q.a.safe = (p.a.l ++ framesF es).length ∧ q.a.l = p.a.l ++ framesF es ∧ q.done = p.done + es.length + 1 ∧ Turn (lg gl g gp false p) w (lg gl g gp false q) w' := by
  refine (lGroup_any (d := ⟨g, gp, false, [p]⟩) 0 (p := p) h (by simp) rfl hd0 hd1 hS (may_size hm) htot).mono ?_
  rintro e w' (⟨_, ⟨x, hx, hn⟩, _⟩ | ⟨_, K, A', c', _, _, h, _⟩ | ⟨_, _, A', c', rfl, hT⟩)
  · exact absurd (hm x hx) hn
  · cases h
  · exact ⟨rfl, { p with a := { p.a with A := A', c := c', l := p.a.l ++ framesF es, safe := (p.a.l ++ framesF es).length }, done := p.done + es.length + 1 }, rfl, rfl, rfl, rfl, hT⟩
theorem group_bad (h : (lg gl g gp false p).P w) (hd0 : 0 ≤ p.done) (hd1 : p.done ≤ 100000000000000000) (hS : Stays (lg gl g gp false p).own w (fun w' => kEn.Sl w' w.heap.size A es)) (hks : ∀ e ∈ es, e.key.size ≤ 140737488355328 ∧ e.value.length ≤ 140737488355328) (hm : ¬ ∀ e ∈ es, e.may) (htot : p.a.l.length + 5009 * es.length ≤ 140737488355328) :
    Calls Try.prog 39 #[.pointer (some ⟨gl, 0, none⟩), .slice A es.length c] w fun e w' => e = .returned (.int .i64 100) ∧ Below w.heap.size w w' := by
  refine (lGroup_any (d := ⟨g, gp, false, [p]⟩) 0 (p := p) h (by simp) rfl hd0 hd1 hS hks htot).mono ?_
  rintro e w' (⟨rfl, _, hb⟩ | ⟨h, _⟩ | ⟨h, _⟩)
  · exact ⟨rfl, hb⟩
  · exact absurd h hm
  · exact absurd h hm
end
theorem Turn.join {a : Item} {w w' w'' : World} {L M : List Item} (h : Turn a w (Item.all L) w') (t : Turn (Item.all []) w' (Item.all M) w'') : Turn a w (Item.all (L ++ M)) w'' := by
  have hb := t.free
  have hM : ∀ k, (Item.all M).own k → w'.heap.size ≤ k := fun k hk => by
    rcases t.o k hk with ⟨i, hi, _⟩ | h
    · cases hi
    · exact h
  refine ⟨⟨fun i hi => ?_, List.pairwise_append.2 ⟨h.p.2, t.p.2, fun i hi j hj k h1 h2 => ?_⟩⟩, h.k.trans (Keeps.of_below hb (fun _ => False)) (fun _ h => h.elim), fun k ⟨i, hi, hk⟩ => ?_⟩
  · rcases List.mem_append.1 hi with hi | hi
    · exact Item.go (h.p.1 i hi) hb
    · exact t.p.1 i hi
  · have := i.lt (h.p.1 i hi) h1
    have := hM k ⟨j, hj, h2⟩
    omega
  · rcases List.mem_append.1 hi with hi | hi
    · exact h.o k ⟨i, hi, hk⟩
    · exact .inr (Nat.le_trans h.k.size (hM k ⟨i, hi, hk⟩))
theorem may_ints {x : En} (h : x.may) : x.ints := by
  have := En.may_bounds h
  unfold En.ints; omega
/-- Entries that were told, as a list. -/
theorem sl_told {w : World} {A : Option Addr} {c n : Nat} {ts : List Told} (h : (Item.rowT 25 6 (.slice A n c) n (toldCells ts)).P w) (hn : n = ts.length) (hr : ∀ i ∈ toldRows ts, i.P w) (hm : ∀ e ∈ ts.map Told.x, e.may) : kEn.Sl w w.heap.size A (ts.map Told.x) :=
  sl_of_row h hn (fun k hk => Item.lt _ h hk) (fun t ht => by
    have ho : BOwns w 0 (.slice t.A t.x.value.length t.c) t.x.value := hr _ (List.mem_map.2 ⟨t, ht, rfl⟩)
    obtain ⟨A1, c1, e, hc, hv⟩ := BOwns.slice ho
    injection e with e1 _ e2
    subst e1; subst e2
    exact ⟨may_ints (hm _ (List.mem_map.2 ⟨t, ht, rfl⟩)), hv, hc⟩)
theorem endsV_ivs (base : Int) (es : List En) : endsV base (offsF 0 es) = ivs (endsI base es) := by simp [endsV, ivs, endsI]
/-- Entries, of a log with these entries, and what no frame begins with behind them. -/
def EntsPost (base : Int) (es : List En) (w : World) (e : Ending) (w' : World) : Prop :=
  ∃ (ts : List Told) (A9 A10 : Option Addr) (c9 c10 : Nat), ts.map Told.x = es ∧ e = .returned (.tuple #[.slice A9 es.length c9, .slice A10 es.length c10]) ∧
    Turn (Item.all []) w (Item.all (Item.rowT 25 6 (.slice A9 es.length c9) es.length (toldCells ts) :: Item.rowT 3 1 (.slice A10 es.length c10) es.length (ivs (endsI base es)) :: toldRows ts)) w'
theorem entries_tell {w : World} {gl g gp : Nat} {ar : Bool} {p : Pt} {es : List En} (h : (lg gl g gp ar p).P w) (hb0 : 0 ≤ p.a.base) (hb1 : p.a.base ≤ 4611686018427387904) (hl : p.a.l.length ≤ 8796093022208) (hs : p.a.safe ≤ p.a.l.length) (hT : tellF p.a.l = endsF 0 es) :
    Calls Try.prog 41 #[.pointer (some ⟨gl, 0, none⟩)] w (EntsPost p.a.base es w) := by
  refine (lEntries_any (d := ⟨g, gp, ar, [p]⟩) 0 (p := p) h (by simp) rfl hb0 hb1 hl hs).mono ?_
  rintro e w' ⟨ts, A9, A10, c9, c10, rfl, ns, hzp, hln, t⟩
  rw [hT] at hzp
  obtain ⟨h1, h2⟩ := told_of hzp (by rw [List.length_map, hln])
  have hlen : ts.length = es.length := by rw [← h1, List.length_map]
  rw [h2, endsV_ivs, hlen] at t
  exact ⟨ts, A9, A10, c9, c10, h1, by rw [hlen], t⟩
theorem entries_ok {w : World} {gl g gp : Nat} {ar : Bool} {p : Pt} {es : List En} {z : List UInt8} (h : (lg gl g gp ar p).P w) (hb0 : 0 ≤ p.a.base) (hb1 : p.a.base ≤ 4611686018427387904) (hl : p.a.l.length ≤ 8796093022208) (hs : p.a.safe ≤ p.a.l.length) (hL : p.a.l = framesF es ++ z) (hm : ∀ e ∈ es, e.may) (hz : NoMark z) :
    Calls Try.prog 41 #[.pointer (some ⟨gl, 0, none⟩)] w (EntsPost p.a.base es w) :=
  entries_tell h hb0 hb1 hl hs (by rw [hL, tellF_junk hm hz])
theorem rowI_reads {w : World} {A : Option Addr} {c n : Nat} {l : List Int} (h : (Item.rowT 3 1 (.slice A n c) n (ivs l)).P w) (hn : n = l.length) : IReads w w.heap.size A l ∧ n ≤ c := by
  obtain ⟨A1, c1, e, hc, hr⟩ := own_slice (show w.ownsRow 0 _ 1 _ n _ from h)
  injection e with e1 _ e2
  subst e1; subst e2; subst hn
  exact ⟨hr, hc⟩
theorem IReads.below {w w' : World} {B : Nat} {A : Option Addr} {l : List Int} (h : IReads w B A l) (hb : Below B w w') : IReads w' B A l := Reads.below h hb
theorem IReads.more {w : World} {B B' : Nat} {A : Option Addr} {l : List Int} (h : IReads w B A l) (hb : B ≤ B') : IReads w B' A l := Reads.more h hb
/-- A literal slice of ints. -/
theorem litI_reads {w : World} {cs : Array Value} {l : List Int} (hx : cs.toList = ivs l) : IReads (w.alloc (.cells cs 3)) (w.alloc (.cells cs 3)).heap.size (some ⟨w.heap.size, 0, none⟩) l := by
  refine ⟨by rw [ivs_length]; omega, fun _ => ⟨w.heap.size, 0, rfl, by simp, fun j u hu => ?_⟩⟩
  rw [Nat.zero_add, (Blk.new w 3 cs).cell j, ← hu, ← hx, Array.getElem?_toList]
theorem append_ok {w : World} {gl g gp : Nat} {p : Pt} (h : (lg gl g gp false p).P w) (hd0 : 0 ≤ p.done) (hd1 : p.done ≤ 1000000000000000000) {c : Nat} {A : Option Addr} {b : List UInt8} (hr : BReads w w.heap.size A b) (hl : p.a.l.length + b.length ≤ 140737488355328) :
    Calls Try.prog 40 #[.pointer (some ⟨g, 0, none⟩), .int .i64 0, .slice A b.length c] w fun e w' => e = .returned (.int .i64 0) ∧ ∃ q : Pt, q.a.base = p.a.base ∧ q.a.safe = p.a.safe ∧ q.a.l = p.a.l ++ b ∧ q.done = p.done + 1 ∧ Turn (lg gl g gp false p) w (lg gl g gp false q) w' := by
  refine (dAppend_any (d := ⟨g, gp, false, [p]⟩) (lg_disk h) (by simp) 0 (p := p) rfl hd0 hd1 (fun h => by cases h) hr hl).mono ?_
  rintro e w' ⟨b', ⟨A', c', rfl⟩, _, rfl, t⟩
  exact ⟨rfl, { p with a := { p.a with A := A', c := c', l := p.a.l ++ b }, done := p.done + 1 }, rfl, rfl, rfl, rfl, lg_turn h t rfl⟩
theorem opens_ens : Opens (kSlice kEn) 54 := opens_slice (by kernel_rfl) Try.underlying54 opens_en (by decide) (of_decide_eq_true (by kernel_rfl))
theorem ens_bulk : ∀ (l : List En), 6 * l.length + 1 ≤ (kSlice kEn).bulk l ∧ ∀ e ∈ l, e.key.size + e.value.length ≤ (kSlice kEn).bulk l
  | [] => ⟨Nat.le_refl _, fun e he => by cases he⟩
  | x :: l => by
    obtain ⟨h1, h2⟩ := ens_bulk l
    have e1 : (kSlice kEn).bulk (x :: l) = kEn.bulk x + (kSlice kEn).bulk l := by
      show (kEn.bulk x :: l.map kEn.bulk).sum + 1 = kEn.bulk x + ((l.map kEn.bulk).sum + 1)
      rw [List.sum_cons]; omega
    have h3 : 6 ≤ kEn.bulk x := by
      show 6 ≤ 1 + (1 + (1 + ((x.key.size + 1) + ((x.value.length + 1) + 1)))); omega
    have h4 := en_bulk x
    refine ⟨by rw [e1, List.length_cons]; omega, fun e he => ?_⟩
    rw [e1]
    rcases List.mem_cons.1 he with rfl | he
    · omega
    · have := h2 e he; omega
theorem ens_size {l : List En} (h : (kSlice kEn).bulk l ≤ 1048576) : ∀ e ∈ l, e.key.size ≤ 140737488355328 ∧ e.value.length ≤ 140737488355328 := fun e he => by
  have := (ens_bulk l).2 e he
  exact ⟨by omega, by omega⟩
theorem Turn.fresh {w w' : World} {x : Item} {L : List Item} {i : Nat} (h : Turn (Item.all []) w (Item.all L) w') (hi : L[i]? = some x) : ∀ k, x.own k → w.heap.size ≤ k := fun k hk => by
  rcases h.o k ⟨x, List.mem_of_getElem? hi, hk⟩ with ⟨j, hj, _⟩ | h
  · cases hj
  · exact h
theorem stays_fit {w0 w : World} {x : Item} {rest : List Item} {A : Option Addr} {c : Nat} {F : List En} {ts : List Told} (T : Turn (Item.all []) w0 (Item.all (x :: rest)) w) (hi : Item.rowT 25 6 (.slice A F.length c) F.length (toldCells ts) ∈ rest) (hts : ts.map Told.x = F) (hv : ∀ t ∈ ts, t.x.ints ∧ BReads w w0.heap.size t.A t.x.value ∧ t.x.value.length ≤ t.c) :
    Stays x.own w (fun w' => kEn.Sl w' w.heap.size A F) := by
  have := stays_row T.p hi (by rw [← hts, List.length_map]) (stays_old (T.fresh (i := 0) rfl) T.k.size hv)
  rwa [hts] at this
/-- A list that fit made, as it reads. -/
theorem sl_fit {w : World} {B : Nat} (hB : B ≤ w.heap.size) {A : Option Addr} {c : Nat} {F : List En} {ts : List Told} (h : (Item.rowT 25 6 (.slice A F.length c) F.length (toldCells ts)).P w) (hts : ts.map Told.x = F) (hv : ∀ t ∈ ts, t.x.ints ∧ BReads w B t.A t.x.value ∧ t.x.value.length ≤ t.c) : kEn.Sl w w.heap.size A F := by
  have := sl_of_row h (by rw [← hts, List.length_map]) (fun k ho => Item.lt _ h ho) (fun t ht => ⟨(hv t ht).1, (hv t ht).2.1.more hB, (hv t ht).2.2⟩)
  rwa [hts] at this
/-- The entries that Entries told, as they read. -/
theorem sl_ents {w : World} {A : Option Addr} {c : Nat} {F : List En} {ts : List Told} {L : List Item} (h : (Item.all L).P w) (h1 : Item.rowT 25 6 (.slice A F.length c) F.length (toldCells ts) ∈ L) (h2 : ∀ i ∈ toldRows ts, i ∈ L) (hts : ts.map Told.x = F) (hm : ∀ e ∈ F, e.may) : kEn.Sl w w.heap.size A F := by
  have := sl_told (Item.all_get h h1) (by rw [← hts, List.length_map]) (fun i hi => Item.all_get h (h2 i hi)) (by rw [hts]; exact hm)
  rwa [hts] at this
section
variable {w : World} {gl g gp : Nat} {p : Pt} {k : Nat}
theorem cut_ok (h : (lg gl g gp false p).P w) (hd0 : 0 ≤ p.done) (hd1 : p.done ≤ 1000000000000000000) (hk : k ≤ p.a.l.length) (hs : p.a.safe ≤ p.a.l.length) (hb0 : 0 ≤ p.a.base) (hb1 : p.a.base ≤ 4611686018427387904) (hl : p.a.l.length ≤ 140737488355328) :
    Calls Try.prog 52 #[.pointer (some ⟨gl, 0, none⟩), .int .i64 (p.a.base + k)] w fun e w' => e = .returned (.int .i64 0) ∧ ∃ q : Pt, q.a.base = p.a.base ∧ q.a.safe = min p.a.safe k ∧ q.a.l = p.a.l.take k ∧ q.done = p.done + 1 ∧ Turn (lg gl g gp false p) w (lg gl g gp false q) w' := by
  refine (lCut_any (d := ⟨g, gp, false, [p]⟩) 0 (p := p) h (by simp) rfl hd0 hd1 (fun h => by cases h) hk hs hb0 hb1 hl).mono ?_
  rintro e w' ⟨b', rfl, _, rfl, t⟩
  exact ⟨rfl, { p with a := p.a.cut k, done := p.done + 1 }, rfl, rfl, rfl, rfl, t⟩
theorem trim_ok (h : (lg gl g gp false p).P w) (hd0 : 0 ≤ p.done) (hd1 : p.done ≤ 1000000000000000000) (hk : k ≤ p.a.safe) (hs : p.a.safe ≤ p.a.l.length) (hb0 : 0 ≤ p.a.base) (hb1 : p.a.base ≤ 4611686018427387904) (hl : p.a.l.length ≤ 140737488355328) :
    Calls Try.prog 51 #[.pointer (some ⟨gl, 0, none⟩), .int .i64 (p.a.base + k)] w fun e w' => e = .returned (.int .i64 0) ∧ ∃ q : Pt, q.a.base = p.a.base + k ∧ q.a.safe = p.a.safe - k ∧ q.a.l = p.a.l.drop k ∧ q.done = p.done + 1 ∧ Turn (lg gl g gp false p) w (lg gl g gp false q) w' := by
  refine (lTrim_any (d := ⟨g, gp, false, [p]⟩) 0 (p := p) h (by simp) rfl hd0 hd1 (fun h => by cases h) hk hs hb0 hb1 hl).mono ?_
  rintro e w' ⟨b', ⟨A', c', rfl⟩, _, rfl, t⟩
  exact ⟨rfl, { p with a := p.a.trim k A' c', done := p.done + 1 }, rfl, rfl, rfl, rfl, t⟩
end
theorem sl_drop {α : Type} {K : Kd α} {w : World} {B k : Nat} {A : Option Addr} {l : List α} (h : K.Sl w B A l) : K.Sl w B (A.map (·.add (k * K.size))) (l.drop k) := by
  intro hl
  rw [List.length_drop] at hl
  obtain ⟨b, off, hA, hb, hr⟩ := h (by omega)
  refine ⟨b, off + k * K.size, by rw [hA]; simp [Addr.add], hb, fun j x hx => ?_⟩
  rw [List.getElem?_drop] at hx
  obtain ⟨cs, h1, h2⟩ := hr (k + j) x hx
  refine ⟨cs, h1, fun t u hu => ?_⟩
  have := h2 t u hu
  rwa [Nat.add_mul, ← Nat.add_assoc] at this
theorem sl_take {α : Type} {K : Kd α} {w : World} {B k : Nat} {A : Option Addr} {l : List α} (h : K.Sl w B A l) : K.Sl w B A (l.take k) := by
  intro hl
  rw [List.length_take] at hl
  obtain ⟨b, off, hA, hb, hr⟩ := h (by omega)
  refine ⟨b, off, hA, hb, fun j x hx => hr j x ?_⟩
  have hj : j < (l.take k).length := (List.getElem?_eq_some_iff.1 hx).1
  rw [List.length_take] at hj
  rwa [List.getElem?_take_of_lt (by omega)] at hx
theorem sl_nil {α : Type} {K : Kd α} {w : World} {B : Nat} {A : Option Addr} : K.Sl w B A [] := fun h => absurd h (Nat.lt_irrefl 0)
theorem ir_drop {w : World} {B k : Nat} {A : Option Addr} {l : List Int} (h : IReads w B A l) : IReads w B (A.map (·.add k)) (l.drop k) := by
  refine ⟨by rw [ivs_length]; omega, fun hl => ?_⟩
  rw [List.length_drop] at hl
  obtain ⟨b, off, hA, hb, hr⟩ := h.2 (by omega)
  refine ⟨b, off + k, by rw [hA]; simp [Addr.add], hb, fun j u hu => ?_⟩
  rw [ivs_get, List.getElem?_drop, ← ivs_get] at hu
  have := hr (k + j) u hu
  rwa [← Nat.add_assoc] at this
theorem ir_take {w : World} {B k : Nat} {A : Option Addr} {l : List Int} (h : IReads w B A l) : IReads w B A (l.take k) := by
  refine ⟨by rw [ivs_length]; omega, fun hl => ?_⟩
  rw [List.length_take] at hl
  obtain ⟨b, off, hA, hb, hr⟩ := h.2 (by omega)
  refine ⟨b, off, hA, hb, fun j u hu => ?_⟩
  have hj : j < (ivs (l.take k)).length := (List.getElem?_eq_some_iff.1 hu).1
  rw [ivs_length, List.length_take] at hj
  rw [ivs_get, List.getElem?_take_of_lt (by omega), ← ivs_get] at hu
  exact hr j u hu
theorem ir_nil {w : World} {B : Nat} {A : Option Addr} : IReads w B A [] := ⟨rfl, fun h => absurd h (Nat.lt_irrefl 0)⟩
end Go.Proofs.Ytnnladfndmdapaa
/- The laws' walFixed, by contract: a row of calls whose answers are fixed. -/
namespace Go.Proofs.Ytnnladfndmdapaa
open Go.RowKit

def fxA : En := ⟨1, 0, 0, ⟨#[107]⟩, [7], false⟩
def fxB : En := ⟨3, 1, 1, ⟨#[]⟩, [], false⟩
def fxC : En := ⟨9, 0, 0, ⟨#[]⟩, [], false⟩
theorem fxA_may : fxA.may := by unfold fxA En.may; rw [if_pos rfl]; decide
theorem fxB_may : fxB.may := by unfold fxB En.may; rw [if_neg (by decide), if_neg (by decide), if_pos (by decide)]; decide
theorem fxC_may : ¬ fxC.may := by simp [fxC, En.may]
theorem fxA_len : fxA.enc.length = 5 := by
  have h1 : intF 1 = [2] := by unfold intF; first | (rw [shortF_small (by decide)]; rfl) | (simp [zigF, shortF_small])
  have : fxA.enc = [1] ++ intF 1 ++ [107] ++ intF 1 ++ [7] := rfl
  rw [this, h1]; rfl
theorem fxB_len : fxB.enc.length = 3 := by
  have h1 : intF 1 = [2] := by unfold intF; first | (rw [shortF_small (by decide)]; rfl) | (simp [zigF, shortF_small])
  have : fxB.enc = [3] ++ intF 1 ++ intF 1 := rfl
  rw [this, h1]; rfl
theorem fx1_len : (framesF [fxA]).length = 14 := by
  have h : framesF [fxA] = frameF fxA.enc ++ [] := rfl
  rw [h, List.append_nil, frameF_len, fxA_len]
theorem fx2_len : (framesF [fxA, fxB]).length = 26 := by
  have h : framesF [fxA, fxB] = frameF fxA.enc ++ (frameF fxB.enc ++ []) := rfl
  rw [h, List.append_nil, List.length_append, frameF_len, frameF_len, fxA_len, fxB_len]
theorem fx_offs : offsF 0 [fxA, fxB] = [14, 26] := by simp [offsF, endsF, fxA_len, fxB_len]
theorem fx_may : ∀ e ∈ [fxA, fxB], e.may := fun e he => by
  simp only [List.mem_cons, List.not_mem_nil, or_false] at he
  rcases he with rfl | rfl
  · exact fxA_may
  · exact fxB_may
theorem D_one {w w' : World} {d : Dk} (ha : d.armed = false) (hl : d.ps.length = 1) (hp : ∀ p ∈ d.ps, p = freshPt p.a.g) : ∃ g gp ga, d = ⟨g, gp, false, [freshPt ga]⟩ := by
  obtain ⟨g, gp, ar, ps⟩ := d
  obtain ⟨p, rfl⟩ := List.length_eq_one_iff.1 hl
  have := hp p (by simp)
  simp only at ha
  subst ha
  exact ⟨g, gp, p.a.g, by rw [← this]⟩
set_option maxRecDepth 100000 in
set_option maxHeartbeats 3200000 in
theorem walFixed_any {w : World} : Calls Try.prog 36 #[] w (True_ w) := by
  go_enter Try.func36, Try.ntmps36
  go_wp2_with fail
  refine (dNew_any (w := w) 1 (by decide) (by decide)).mono ?_
  rintro e w1 ⟨d, h1, h2, h3, rfl, t1⟩
  obtain ⟨g, gp, ga, rfl⟩ := D_one (w := w) (w' := w) h1 h2 h3
  have T1 := Lib.hid t1
  clear h1 h2 h3 t1
  go_wp2_with fail
  refine (lOpen_any T1.out.p (by simp) 0 rfl (by simp [freshPt]) (by simp [freshPt]) (by simp [freshPt]) (by simp [freshPt])).mono ?_
  rintro e w2 ⟨gl, hgl, rfl, hk, hb⟩
  have T2 := Lib.hid (show Turn (Item.all []) w (Item.all [lg gl g gp false (freshPt ga)]) w2 from (T1.out.one.more hb (y := Item.blk gl 119 (logCells ⟨g, gp, false, [freshPt ga]⟩ 0)) hk (fun k e => by cases e; exact hgl)).one)
  clear hk hb T1
  go_wp2_with fail
  obtain ⟨w3, hw3⟩ : ∃ x, x = w2.alloc (.cells #[.int .u8 7] 5) := ⟨_, rfl⟩
  have T3 := Lib.hid (show Turn (Item.all []) w (Item.all [lg gl g gp false (freshPt ga), Item.row (.slice (some ⟨w2.heap.size, 0, none⟩) fxA.value.length 1) fxA.value]) w3 from by rw [hw3]; exact T2.out.litB (l := fxA.value) rfl (by decide))
  have hs3 : w2.heap.size + 1 = w3.heap.size := by rw [hw3]; simp
  rw [← hw3, hs3]
  clear hw3 hs3 T2
  obtain ⟨w4, hw4⟩ : ∃ x, x = w3.alloc (.cells #[.int .i64 1, .int .i64 0, .int .i64 0, .string ⟨#[107]⟩, .slice (some ⟨w2.heap.size, 0, none⟩) 1 1, .bool false] 25) := ⟨_, rfl⟩
  have T4 := Lib.hid (show Turn (Item.all []) w (Item.all [lg gl g gp false (freshPt ga), Item.rowT 25 6 (.slice (some ⟨w3.heap.size, 0, none⟩) 1 1) 1 (toldCells [⟨fxA, some ⟨w2.heap.size, 0, none⟩, 1⟩]), Item.row (.slice (some ⟨w2.heap.size, 0, none⟩) fxA.value.length 1) fxA.value]) w4 from by rw [hw4]; exact T3.out.lit rfl rfl (by decide))
  rw [← hw4]
  have S4 := stays_row T4.out.p (List.mem_cons_self ..) rfl (stays_rows T4.out.p (fun t ht => by
    simp only [List.mem_cons, List.not_mem_nil, or_false] at ht; subst ht
    exact ⟨by simp [fxA, En.ints], by simp⟩))
  have W4 := Lib.hid (write_ok (c := 1) (es := [fxA]) (T4.out.get (i := 0) rfl) (Int.le_refl 0) (show (0 : Int) ≤ _ by decide) S4 (fun e he => by simp only [List.mem_cons, List.not_mem_nil, or_false] at he; subst he; exact fxA_may) (show 0 + 5009 * 1 ≤ _ by decide))
  clear hw4 T3 S4
  refine W4.out.mono ?_
  rintro e w5 ⟨rfl, q, qb, qs, ql, qd, t⟩
  have T5 := Lib.hid (T4.out.step (i := 0) rfl t)
  have HQ := Lib.hid (show q.a.base = 0 ∧ q.a.l = framesF [fxA] ∧ q.done = 1 from ⟨qb, ql, qd⟩)
  clear W4 T4 qb qs ql qd t
  go_wp2_with fail
  obtain ⟨w6, hw6⟩ : ∃ x, x = w5.alloc (.cells #[.int .i64 3, .int .i64 1, .int .i64 1, .string ⟨#[]⟩, .slice none 0 0, .bool false] 25) := ⟨_, rfl⟩
  have T6 := Lib.hid (show Turn (Item.all []) w (Item.all [lg gl g gp false q, Item.rowT 25 6 (.slice (some ⟨w5.heap.size, 0, none⟩) 1 1) 1 (toldCells [⟨fxB, none, 0⟩])]) w6 from by rw [hw6]; exact (T5.out.sub (List.Sublist.cons_cons _ (List.nil_sublist _))).lit rfl rfl (by decide))
  rw [← hw6]
  have S6 := stays_row T6.out.p (List.mem_cons_self ..) rfl (fun w' _ t ht => by
    simp only [List.mem_cons, List.not_mem_nil, or_false] at ht; subst ht
    exact ⟨by simp [fxB, En.ints], Reads.none_, Nat.le_refl _⟩)
  have W6 := Lib.hid (group_ok (c := 1) (es := [fxB]) (T6.out.get (i := 0) rfl) (by rw [HQ.out.2.2]; decide) (by rw [HQ.out.2.2]; decide) S6 (fun e he => by simp only [List.mem_cons, List.not_mem_nil, or_false] at he; subst he; exact fxB_may) (by rw [HQ.out.2.1, fx1_len]; decide))
  clear hw6 T5 S6
  refine W6.out.mono ?_
  rintro e w7 ⟨rfl, q2, qb, qs, ql, qd, t⟩
  have T7 := Lib.hid (T6.out.step (i := 0) rfl t)
  have HQ2 := Lib.hid (show q2.a.base = 0 ∧ q2.a.l = framesF [fxA, fxB] ∧ q2.a.safe = (framesF [fxA, fxB]).length ∧ q2.done = 3 from by
    obtain ⟨h1, h2, h3⟩ := HQ.out
    rw [h2, ← framesF_append] at ql qs
    rw [h3] at qd
    rw [h1] at qb
    exact ⟨qb, ql, qs, qd⟩)
  clear W6 T6 qb qs ql qd t
  go_wp2_with fail
  obtain ⟨w8, hw8⟩ : ∃ x, x = w7.alloc (.cells #[.int .i64 9, .int .i64 0, .int .i64 0, .string ⟨#[]⟩, .slice none 0 0, .bool false] 25) := ⟨_, rfl⟩
  have T8 := Lib.hid (show Turn (Item.all []) w (Item.all [lg gl g gp false q2, Item.rowT 25 6 (.slice (some ⟨w7.heap.size, 0, none⟩) 1 1) 1 (toldCells [⟨fxC, none, 0⟩])]) w8 from by rw [hw8]; exact (T7.out.sub (List.Sublist.cons_cons _ (List.nil_sublist _))).lit rfl rfl (by decide))
  rw [← hw8]
  have S8 := stays_row T8.out.p (List.mem_cons_self ..) rfl (fun w' _ t ht => by
    simp only [List.mem_cons, List.not_mem_nil, or_false] at ht; subst ht
    exact ⟨by simp [fxC, En.ints], Reads.none_, Nat.le_refl _⟩)
  have W8 := Lib.hid (group_bad (c := 1) (es := [fxC]) (T8.out.get (i := 0) rfl) (by rw [HQ2.out.2.2.2]; decide) (by rw [HQ2.out.2.2.2]; decide) S8 (fun e he => by simp only [List.mem_cons, List.not_mem_nil, or_false] at he; subst he; decide) (fun h => fxC_may (h _ (List.mem_cons_self ..))) (by rw [HQ2.out.2.1, fx2_len]; decide))
  clear hw8 T7 S8
  refine W8.out.mono ?_
  rintro e w9 ⟨rfl, hb⟩
  have T9 := Lib.hid (T8.out.go hb)
  clear W8 T8 hb
  go_wp2_with fail
  have W9 := Lib.hid (lBounds_any 0 (T9.out.get (i := 0) rfl) (by simp) rfl (by rw [HQ2.out.1]; decide) (by rw [HQ2.out.1]; decide) (by rw [HQ2.out.2.1, fx2_len]; decide) (by rw [HQ2.out.2.2.1, HQ2.out.2.1]; exact Nat.le_refl _))
  refine W9.out.mono ?_
  rintro e w10 ⟨rfl, hb⟩
  have T10 := Lib.hid (T9.out.go hb)
  rw [HQ2.out.1, HQ2.out.2.2.1, HQ2.out.2.1, fx2_len, show (0 : Int) + ((26 : Nat) : Int) = 26 from rfl]
  clear W9 T9 hb
  go_wp2_with fail
  have W10 := Lib.hid (entries_ok (es := [fxA, fxB]) (z := []) (T10.out.get (i := 0) rfl) (by rw [HQ2.out.1]; decide) (by rw [HQ2.out.1]; decide) (by rw [HQ2.out.2.1, fx2_len]; decide) (by rw [HQ2.out.2.2.1, HQ2.out.2.1]; exact Nat.le_refl _) (by rw [HQ2.out.2.1, List.append_nil]) fx_may (fun b h => by cases h))
  refine W10.out.mono ?_
  rintro e w11 ⟨ts, A9, A10, c9, c10, h1, rfl, t⟩
  have T11 := Lib.hid (T10.out.join t)
  have S11 := Lib.hid (show kEn.Sl w11 w11.heap.size A9 [fxA, fxB] from by
    have hlen := congrArg List.length h1
    rw [List.length_map] at hlen
    rw [← h1]
    exact sl_told (t.get (i := 0) rfl) hlen.symm (fun i hi => Item.all_get t.p (List.mem_cons_of_mem _ (List.mem_cons_of_mem _ hi))) (by rw [h1]; exact fx_may))
  obtain ⟨b0, o0, A0, c0, rfl, hb0, _, s00, s01, s02, s03, s04, s05, _⟩ := en_at S11.out (i := 0) (by decide)
  obtain ⟨b1, o1, A1, c1, e1, hb1, _, s10, s11, s12, s13, s14, s15, _⟩ := en_at S11.out (i := 1) (by decide)
  injection e1 with e1
  injection e1 with e1 e2
  subst e1; subst e2
  have R11 := Lib.hid (rowI_reads (l := [14, 26]) (by have := t.get (i := 1) rfl; rw [HQ2.out.1, show endsI 0 [fxA, fxB] = [14, 26] from by unfold endsI; rw [fx_offs]; rfl] at this; exact this) rfl)
  clear W10 h1 t T10 hgl
  simp only [List.length_cons, List.length_nil, List.getElem_cons_zero, List.getElem_cons_succ, fxA, fxB, Nat.zero_mul, Nat.one_mul, Nat.add_zero, Nat.zero_add] at s00 s01 s02 s03 s04 s05 s10 s11 s12 s13 s14 s15 ⊢
  go_wp2_with fail
  have B12 := Lib.hid ((Below.refl w11.heap.size w11).alloc (Nat.le_refl _) (.cells #[.int .i64 14, .int .i64 26] 3))
  have W12 := Lib.hid (equalI_any (c := c10) (c' := 2) ((R11.out.1.below B12.out).more B12.out.size) (litI_reads (w := w11) (cs := #[.int .i64 14, .int .i64 26]) (l := [14, 26]) rfl) (by decide))
  refine W12.out.mono ?_
  rintro e w13 ⟨rfl, m, rfl⟩
  rw [show decide (([14, 26] : List Int) = [14, 26]) = true from decide_eq_true rfl]
  have HB := Lib.hid (show Below w.heap.size w _ from T11.out.free.trans (B12.out.mono T11.out.k.size))
  clear W12 S11 R11 T11 B12 s00 s01 s02 s03 s04 s05 s10 s11 s12 s13 s14 s15
  go_wp2
  go_ret
  exact ⟨rfl, HB.out.os, HB.out.tape, HB.out.output, HB.out.size, HB.out.block⟩
end Go.Proofs.Ytnnladfndmdapaa
