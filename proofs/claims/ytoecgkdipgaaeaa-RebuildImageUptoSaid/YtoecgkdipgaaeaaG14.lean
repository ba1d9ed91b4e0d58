/- Contracts and plain laws that this claim leans on, laid together: Cmt1. -/
import Derived.Test.YtoecgkdipgaaeaaG13
import Derived.Lib.SmallJoins
set_option linter.all false
set_option linter.unusedVariables false
set_option linter.unusedSimpArgs false
set_option linter.unnecessarySimpa false
/- Laws of layer 19: versions as pieces of memory; Do where pieces lie beside it; awake. -/
namespace Go.Proofs.Ytoecgkdipgaaeaa
open Go.RowKit

/-- A version, and where its value lies. -/
structure Hv where
  x : Vn
  A : Option Addr
  c : Nat
def hvCells (ts : List Hv) : List Value := ts.flatMap fun t => (t.x.cells t.A t.c).toList
def hvRows (ts : List Hv) : List Item := ts.map fun t => Item.row (.slice t.A t.x.value.length t.c) t.x.value
section
variable {w : World} {x : Item} {rest : List Item} {A : Option Addr} {c n : Nat} {ts : List Hv}
theorem slv_of_row {B : Nat} (h : (Item.rowT 33 4 (.slice A n c) n (hvCells ts)).P w) (hn : n = ts.length) (hB : ∀ k, (Value.slice A n c).ownBlock = some k → k < B) (hv : ∀ t ∈ ts, t.x.ints ∧ BReads w B t.A t.x.value ∧ t.x.value.length ≤ t.c) : kVn.Sl w B A (ts.map Hv.x) := by
  intro hl
  rw [List.length_map] at hl
  have h' : w.ownsRow 0 33 4 (.slice A n c) n (hvCells ts) := h
  rcases h'.2 with ⟨h2, h3⟩ | ⟨g, cap, cur, hv1, _, hh, h4, h5, h6, h7⟩
  · omega
  injection hv1 with hv1
  subst hv1
  refine ⟨g, 0, rfl, hB g rfl, fun j x hx => ?_⟩
  rw [List.getElem?_map] at hx
  obtain ⟨t, ht, rfl⟩ := Option.map_eq_some_iff.1 hx
  have hm := List.mem_of_getElem? ht
  obtain ⟨⟨s1, s2⟩, hr, hcap⟩ := hv t hm
  refine ⟨(t.x.cells t.A t.c).toList, ?_, fun i u hu => ?_⟩
  · have wf : ∀ z : Int, -9223372036854775808 ≤ z → z ≤ 9223372036854775807 → (Lit.int .i64 z).wf = true := fun z h1 h2 => by simp [Lit.wf, IntKind.min, IntKind.max, IntKind.signed, IntKind.bits]; omega
    exact ⟨[_], _, rfl, rfl, [_], _, rfl, ⟨rfl, wf _ s1 s2⟩, [_], [_], rfl, ⟨t.A, t.c, rfl, hcap, hr⟩, rfl⟩
  · have hj : j < ts.length := (List.getElem?_eq_some_iff.1 ht).1
    have hi : i < 4 := (List.getElem?_eq_some_iff.1 hu).1
    have e1 : (hvCells ts)[j * 4 + i]? = some u := by
      unfold hvCells
      rw [List.flatMap_def]
      have := flat_get (L := ts.map fun t => (t.x.cells t.A t.c).toList) (n := 4) (i := j) (j := i) (x := (t.x.cells t.A t.c).toList) (fun x hx => by obtain ⟨t', _, rfl⟩ := List.mem_map.1 hx; rfl) (by rw [List.getElem?_map, ht]; rfl) hi
      rw [this]; exact hu
    have hlt : j * 4 + i < n * 4 := by omega
    rw [← h7, List.getElem?_take_of_lt hlt] at e1
    show w.cell? ⟨g, 0 + j * 4 + i, none⟩ = some u
    rw [Nat.zero_add]
    unfold World.cell?
    simp only [hh]
    simpa using e1
/-- What hangs on the other pieces alone stays. -/
theorem stays_of {Q : World → Prop} (hT : (Item.all (x :: rest)).P w) (h : ∀ w' : World, (∀ i ∈ rest, i.P w' ∧ ∀ k, i.own k → k < w.heap.size) → Q w') : Stays x.own w Q := fun w' hk =>
  h w' fun i hi => by
    have hp := Item.all_get hT (List.mem_cons_of_mem _ hi)
    have hd := (List.pairwise_cons.1 hT.2).1 _ hi
    exact ⟨Item.keep _ hp fun k ho => hk k (Item.lt _ hp ho) (fun h => hd k h ho), fun k ho => Item.lt _ hp ho⟩
theorem slv_rows {B : Nat} {L : List Item} (h : ∀ i ∈ L, i.P w ∧ ∀ k, i.own k → k < B) (hr : Item.rowT 33 4 (.slice A n c) n (hvCells ts) ∈ L) (hv : ∀ t ∈ ts, t.x.ints ∧ Item.row (.slice t.A t.x.value.length t.c) t.x.value ∈ L) (hn : n = ts.length) : kVn.Sl w B A (ts.map Hv.x) :=
  slv_of_row (h _ hr).1 hn (h _ hr).2 fun t ht => by
    obtain ⟨h1, h2⟩ := hv t ht
    obtain ⟨hp, hlt⟩ := h _ h2
    have ho : BOwns w 0 (.slice t.A t.x.value.length t.c) t.x.value := hp
    obtain ⟨A1, c1, e, hc, _⟩ := BOwns.slice ho
    injection e with e1 _ e2
    subst e2
    refine ⟨h1, ⟨ho.reads.1, fun hl => ?_⟩, hc⟩
    obtain ⟨b, off, hA, _, hcl⟩ := ho.reads.2 hl
    exact ⟨b, off, hA, hlt _ (show (Value.slice t.A _ _).ownBlock = some b from by rw [hA]; rfl), hcl⟩
end
/-- The bytes of a constant, in a block of their own. -/
def Item.lit (g : Nat) (l : List UInt8) : Item where
  own := fun k => k = g
  P := fun w => ∃ fr, w.heap[g]? = some (.cells (bys l).toArray 5 fr)
  keep := fun ⟨fr, h⟩ hk => ⟨fr, (hk g rfl).trans h⟩
  lt := fun {w k} ⟨fr, h⟩ e => by
    subst e
    rcases Nat.lt_or_ge k w.heap.size with hlt | hge
    · exact hlt
    · rw [Array.getElem?_eq_none hge] at h; cases h
theorem Turn.litC {a x : Item} {w w' : World} {L : List Item} (h : Turn a w (Item.all (x :: L)) w') {cs : Array Value} (l : List UInt8) (hx : cs = (bys l).toArray) (fr : Nat × Nat) : Turn a w (Item.all (x :: Item.lit w'.heap.size l :: L)) (w'.alloc (.cells cs 5 fr)) :=
  h.add ((Below.refl _ _).alloc (Nat.le_refl _) _) ⟨fr, by rw [← hx]; exact heap_alloc_new w' _⟩ (fun k hk => Nat.le_of_eq hk.symm)
theorem lit_rd {w : World} {g B : Nat} {l : List UInt8} (h : (Item.lit g l).P w) (hg : g < B) : BReads w B (some ⟨g, 0, none⟩) l := by
  obtain ⟨fr, h⟩ := h
  refine ⟨by rw [bys_length, Nat.mul_one], fun _ => ⟨g, 0, rfl, hg, fun j u hu => ?_⟩⟩
  rw [Nat.zero_add, cell_of_row _ g j _ 5 fr h]
  simpa using hu
/-- What Do answers and does, where other pieces lie beside. -/
def DoRes (a : Item) (w0 : World) (s : St) (gc : Nat) (now wd : Int) (gl g gp : Nat) (p : Pt) (rest : List Item) (l : List Vn) (since : Int) (N : Nat) (e : Ending) (w' : World) : Prop :=
  (l = [] ∨ l ≠ [] ∧ askedF (some s) now l since ≠ 0) ∧ (∃ r : Int, (r = if l = [] then 0 else askedF (some s) now l since) ∧ e = .returned (.tuple #[.int .i64 0, .int .i64 r])) ∧ Turn a w0 (Item.all (s.item :: Item.clk gc now wd :: lg gl g gp false p :: rest)) w' ∨
  l ≠ [] ∧ askedF (some s) now l since = 0 ∧ e = .returned (.tuple #[.int .i64 (now + 1), .int .i64 0]) ∧ ∃ (s' : St) (q : Pt), s'.gs = s.gs ∧ s'.gm = s.gm ∧ s'.ok (N + l.length) ∧ s'.view = applyL s.view l (now + 1) ∧
    q.a.base = p.a.base ∧ q.a.safe = (p.a.l ++ framesF (entsF l (now + 1))).length ∧ q.a.l = p.a.l ++ framesF (entsF l (now + 1)) ∧ q.done = p.done + (l.length + 1) + 1 ∧
    Turn a w0 (Item.all (s'.item :: Item.clk gc (now + 1) wd :: lg gl g gp false q :: rest)) w'
theorem do_turn {a : Item} {w0 w : World} {s : St} {gc : Nat} {now wd : Int} {gl g gp : Nat} {p : Pt} {N : Nat} {rest : List Item} (T : Turn a w0 (Item.all (s.item :: Item.clk gc now wd :: lg gl g gp false p :: rest)) w) (hok : s.ok N) (hnow0 : 0 ≤ now) (hnow1 : now ≤ 4611686018427387904) (hd0 : 0 ≤ p.done) (hd1 : p.done ≤ 100000000000000000)
    {A : Option Addr} {c : Nat} {l : List Vn} {since : Int} (hS : ∀ w' : World, (∀ i ∈ rest, i.P w' ∧ ∀ k, i.own k → k < w.heap.size) → kVn.Sl w' w.heap.size A l) (hks : ∀ v ∈ l, v.key.size ≤ maxLen ∧ v.value.length ≤ 140737488355328) (hl : N + l.length ≤ 1000000000)
    (htot : p.a.l.length + 5009 * (l.length + 1) ≤ 140737488355328) :
    Calls Try.prog 18 #[.pointer (some ⟨s.gs, 0, none⟩), .pointer (some ⟨gc, 0, none⟩), .pointer (some ⟨gl, 0, none⟩), .slice A l.length c, .int .i64 since] w (DoRes a w0 s gc now wd gl g gp p rest l since N) := by
  have T1 := T.sameR (Item.Same.symm (same_flat (L := [s.item, Item.clk gc now wd, lg gl g gp false p])))
  refine (do_any (T1.get (i := 0) rfl) hok hnow0 hnow1 hd0 hd1 (c := c) (since := since) (stays_of T1.p hS) hks hl htot).mono ?_
  rintro e w' (⟨h1, rfl, hb⟩ | ⟨h1, h2, rfl, hb⟩ | ⟨h1, h2, rfl, s', q, h3, h4, h5, h6, h7, h8, h9, h10, t⟩)
  · exact Or.inl ⟨Or.inl h1, ⟨0, by rw [if_pos h1], rfl⟩, T.go hb⟩
  · exact Or.inl ⟨Or.inr ⟨h1, h2⟩, ⟨_, by rw [if_neg h1], rfl⟩, T.go hb⟩
  · exact Or.inr ⟨h1, h2, rfl, s', q, h3, h4, h5, h6, h7, h8, h9, h10, (T1.step (i := 0) rfl t).sameR same_flat⟩
section
variable {a : Item} {w0 w : World} {s : St} {gc : Nat} {now wd : Int} {gl g gp : Nat} {p : Pt} {N : Nat} {rest : List Item} {A : Option Addr} {c : Nat} {l : List Vn} {since : Int}
theorem do_yes (T : Turn a w0 (Item.all (s.item :: Item.clk gc now wd :: lg gl g gp false p :: rest)) w) (hok : s.ok N) (hnow0 : 0 ≤ now) (hnow1 : now ≤ 4611686018427387904) (hd0 : 0 ≤ p.done) (hd1 : p.done ≤ 100000000000000000)
    (hS : ∀ w' : World, (∀ i ∈ rest, i.P w' ∧ ∀ k, i.own k → k < w.heap.size) → kVn.Sl w' w.heap.size A l) (hks : ∀ v ∈ l, v.key.size ≤ maxLen ∧ v.value.length ≤ 140737488355328) (hl : N + l.length ≤ 1000000000)
    (htot : p.a.l.length + 5009 * (l.length + 1) ≤ 140737488355328) (h0 : l ≠ []) (h1 : askedF (some s) now l since = 0) :
    Calls Try.prog 18 #[.pointer (some ⟨s.gs, 0, none⟩), .pointer (some ⟨gc, 0, none⟩), .pointer (some ⟨gl, 0, none⟩), .slice A l.length c, .int .i64 since] w fun e w' => e = .returned (.tuple #[.int .i64 (now + 1), .int .i64 0]) ∧ ∃ (s' : St) (q : Pt), s'.gs = s.gs ∧ s'.gm = s.gm ∧ s'.ok (N + l.length) ∧ s'.view = applyL s.view l (now + 1) ∧
      q.a.base = p.a.base ∧ q.a.safe = (p.a.l ++ framesF (entsF l (now + 1))).length ∧ q.a.l = p.a.l ++ framesF (entsF l (now + 1)) ∧ q.done = p.done + (l.length + 1) + 1 ∧
      Turn a w0 (Item.all (s'.item :: Item.clk gc (now + 1) wd :: lg gl g gp false q :: rest)) w' := by
  refine (do_turn T hok hnow0 hnow1 hd0 hd1 (c := c) (since := since) hS hks hl htot).mono ?_
  rintro e w' (⟨h, _⟩ | ⟨_, _, h⟩)
  · rcases h with h | ⟨_, h⟩
    · exact absurd h h0
    · exact absurd h1 h
  · exact h
theorem do_no (T : Turn a w0 (Item.all (s.item :: Item.clk gc now wd :: lg gl g gp false p :: rest)) w) (hok : s.ok N) (hnow0 : 0 ≤ now) (hnow1 : now ≤ 4611686018427387904) (hd0 : 0 ≤ p.done) (hd1 : p.done ≤ 100000000000000000)
    (hS : ∀ w' : World, (∀ i ∈ rest, i.P w' ∧ ∀ k, i.own k → k < w.heap.size) → kVn.Sl w' w.heap.size A l) (hks : ∀ v ∈ l, v.key.size ≤ maxLen ∧ v.value.length ≤ 140737488355328) (hl : N + l.length ≤ 1000000000)
    (htot : p.a.l.length + 5009 * (l.length + 1) ≤ 140737488355328) {r : Int} (hr : r = if l = [] then 0 else askedF (some s) now l since) (h1 : l = [] ∨ r ≠ 0) :
    Calls Try.prog 18 #[.pointer (some ⟨s.gs, 0, none⟩), .pointer (some ⟨gc, 0, none⟩), .pointer (some ⟨gl, 0, none⟩), .slice A l.length c, .int .i64 since] w fun e w' => e = .returned (.tuple #[.int .i64 0, .int .i64 r]) ∧ Turn a w0 (Item.all (s.item :: Item.clk gc now wd :: lg gl g gp false p :: rest)) w' := by
  refine (do_turn T hok hnow0 hnow1 hd0 hd1 (c := c) (since := since) hS hks hl htot).mono ?_
  rintro e w' (⟨_, ⟨r', h, rfl⟩, t⟩ | ⟨h2, h3, _⟩)
  · rw [hr, ← h]; exact ⟨rfl, t⟩
  · rcases h1 with h | h
    · exact absurd h h2
    · rw [if_neg h2] at hr; exact absurd (hr.trans h3) h
end
/-! What the calls of awake answer. -/
def awA : Vn := ⟨⟨#[97]⟩, 0, [49], false⟩
def awB : Vn := ⟨⟨#[98]⟩, 0, [50], false⟩
def awL : List Vn := [awA, awB]
theorem aw_may : mayF awL = 0 := by
  unfold mayF
  rw [if_neg]
  rintro ⟨i, hi, h⟩
  obtain rfl : i = 0 := by simp [awL] at hi; omega
  revert h
  show leB awB.key awA.key = true → False
  rw [leB_eq]
  decide
theorem aw_fits : fitsF awL = 0 := fitsF_all (by
  intro v hv
  simp only [awL, List.mem_cons, List.not_mem_nil, or_false] at hv
  rcases hv with rfl | rfl <;> decide)
/-- Whether a key has something above, by the plain store. -/
def aboveP (S : PS) (l : List Vn) (since : Int) : Bool := l.any fun v => decide (0 < (ofP S v.k).length) && decide (since < lastP (ofP S v.k))
theorem aboveF_view (s : St) (l : List Vn) (since : Int) : aboveF (some s) l since = aboveP s.view l since := by
  unfold aboveF aboveP
  congr 1
  funext v
  exact above_view
theorem askedF_view {s : St} {now since : Int} {l : List Vn} : askedF (some s) now l since = if mayF l ≠ 0 then mayF l else if since < 0 ∨ now < since then 2 else if fitsF l ≠ 0 then fitsF l else if aboveP s.view l now = true then 130 else if aboveP s.view l since = true then 190 else if now = 4611686018427387904 then 120 else 0 := by
  unfold askedF
  rw [aboveF_view, aboveF_view]
theorem aw_ask {s : St} {now since : Int} : askedF (some s) now awL since = if since < 0 ∨ now < since then 2 else if aboveP s.view awL now = true then 130 else if aboveP s.view awL since = true then 190 else if now = 4611686018427387904 then 120 else 0 := by
  rw [askedF_view, aw_may, aw_fits]; simp
instance : Decidable awA.ints := by unfold Vn.ints; infer_instance
instance : Decidable awB.ints := by unfold Vn.ints; infer_instance
theorem aw_1 : aboveP [] awL 0 = false := by decide
theorem aw_2 : aboveP (applyL [] awL 1) awL 1 = false := by decide
theorem aw_3 : aboveP (applyL [] awL 1) awL 0 = true := by decide
theorem aw_4 : aboveP (applyL (applyL [] awL 1) awL 2) awL 1 = true := by decide
theorem aw_5 : aboveP (applyL (applyL [] awL 1) awL 2) awL 2 = false := by decide
theorem awL_row {b1 b2 : Nat} : hvCells [⟨awA, some ⟨b1, 0, none⟩, 1⟩, ⟨awB, some ⟨b2, 0, none⟩, 1⟩] = [.string ⟨#[97]⟩, .int .i64 0, .slice (some ⟨b1, 0, none⟩) 1 1, .bool false, .string ⟨#[98]⟩, .int .i64 0, .slice (some ⟨b2, 0, none⟩) 1 1, .bool false] := rfl
theorem awL_sl {w : World} {B ba b1 b2 : Nat} {L : List Item} (h : ∀ i ∈ L, i.P w ∧ ∀ k, i.own k → k < B) (h0 : Item.rowT 33 4 (.slice (some ⟨ba, 0, none⟩) 2 2) 2 (hvCells [⟨awA, some ⟨b1, 0, none⟩, 1⟩, ⟨awB, some ⟨b2, 0, none⟩, 1⟩]) ∈ L) (h1 : Item.lit b1 [49] ∈ L) (h2 : Item.lit b2 [50] ∈ L) : kVn.Sl w B (some ⟨ba, 0, none⟩) awL :=
  slv_of_row (ts := [⟨awA, some ⟨b1, 0, none⟩, 1⟩, ⟨awB, some ⟨b2, 0, none⟩, 1⟩]) (h _ h0).1 rfl (h _ h0).2 (fun t ht => by
    simp only [List.mem_cons, List.not_mem_nil, or_false] at ht
    rcases ht with rfl | rfl
    · exact ⟨(by decide : awA.ints), lit_rd (h _ h1).1 ((h _ h1).2 _ rfl), Nat.le_refl 1⟩
    · exact ⟨(by decide : awB.ints), lit_rd (h _ h2).1 ((h _ h2).2 _ rfl), Nat.le_refl 1⟩)
theorem aw_size : ∀ v ∈ awL, v.key.size ≤ maxLen ∧ v.value.length ≤ 140737488355328 := by
  intro v hv
  simp only [awL, List.mem_cons, List.not_mem_nil, or_false] at hv
  rcases hv with rfl | rfl <;> (unfold maxLen; decide)
def awR (gs gc g gl gw gd ba b1 b2 : Nat) : List Item := [Item.blk gw 53 (wldCells gs gc g gl gd (.slice none 0 0) 0 3 false), Item.blk gd 228 areaZ, Item.rowT 33 4 (.slice (some ⟨ba, 0, none⟩) 2 2) 2 (hvCells [⟨awA, some ⟨b1, 0, none⟩, 1⟩, ⟨awB, some ⟨b2, 0, none⟩, 1⟩]), Item.lit b2 [50], Item.lit b1 [49]]
theorem wld_cells {w : World} {gw : Nat} {S : Value} {ar : Bool} {now wd : Int} {gs gc g gl gd : Nat} (h : (Item.blk gw 53 (wldCells gs gc g gl gd S now wd ar)).P w) : w.cell? ⟨gw, 0, none⟩ = some (.pointer (some ⟨gs, 0, none⟩)) ∧ w.cell? ⟨gw, 1, none⟩ = some (.pointer (some ⟨gc, 0, none⟩)) ∧ w.cell? ⟨gw, 3, none⟩ = some (.pointer (some ⟨gl, 0, none⟩)) := ⟨Blk.cell h 0, Blk.cell h 1, Blk.cell h 3⟩
section
variable {w0 w : World} {s : St} {now since : Int} {gs gc g gp gl gw gd ba b1 b2 N : Nat} {p : Pt}
theorem aw_row {B : Nat} (w' : World) (h : ∀ i ∈ awR gs gc g gl gw gd ba b1 b2, i.P w' ∧ ∀ k, i.own k → k < B) : kVn.Sl w' B (some ⟨ba, 0, none⟩) awL := awL_sl h (List.getElem_mem (n := 2) (by simp [awR])) (List.getElem_mem (n := 4) (by simp [awR])) (List.getElem_mem (n := 3) (by simp [awR]))
theorem aw_yes (T : Turn (Item.all []) w0 (Item.all (s.item :: Item.clk gc now 3 :: lg gl g gp false p :: awR gs gc g gl gw gd ba b1 b2)) w) (hok : s.ok N) (hs : s.gs = gs) (hN : N ≤ 100) (hnow0 : 0 ≤ now) (hnow1 : now ≤ 100) (hd0 : 0 ≤ p.done) (hd1 : p.done ≤ 100) (hl : p.a.l.length ≤ 100000) (ha : askedF (some s) now awL since = 0) :
    Calls Try.prog 18 #[.pointer (some ⟨gs, 0, none⟩), .pointer (some ⟨gc, 0, none⟩), .pointer (some ⟨gl, 0, none⟩), .slice (some ⟨ba, 0, none⟩) 2 2, .int .i64 since] w fun e w' => e = .returned (.tuple #[.int .i64 (now + 1), .int .i64 0]) ∧ ∃ (s' : St) (q : Pt), s'.gs = gs ∧ s'.ok (N + 2) ∧ s'.view = applyL s.view awL (now + 1) ∧ 0 ≤ q.done ∧ q.done ≤ p.done + 4 ∧ q.a.l.length ≤ p.a.l.length + 20000 ∧
      Turn (Item.all []) w0 (Item.all (s'.item :: Item.clk gc (now + 1) 3 :: lg gl g gp false q :: awR gs gc g gl gw gd ba b1 b2)) w' := by
  subst hs
  refine (do_yes (c := 2) (since := since) T hok hnow0 (by omega) hd0 (by omega) (A := some ⟨ba, 0, none⟩) (l := awL) (fun w' h => aw_row w' h) aw_size (by simp [awL]; omega) (by simp [awL]; omega) (by simp [awL]) ha).mono ?_
  rintro e w' ⟨rfl, s', q, h1, h2, h3, h4, h5, h6, h7, h8, t⟩
  have hm : ∀ e ∈ entsF awL (now + 1), e.may := ents_may (by
    intro v hv
    simp only [awL, List.mem_cons, List.not_mem_nil, or_false] at hv
    rcases hv with rfl | rfl <;> decide) (by omega) (by omega) (by simp [awL])
  have hf := framesF_len hm
  have e3 : (entsF awL (now + 1)).length = 3 := rfl
  rw [e3] at hf
  have e2 : awL.length = 2 := rfl
  rw [e2] at h8
  refine ⟨rfl, s', q, h1, h3, h4, by omega, by omega, ?_, t⟩
  rw [h7, List.length_append]; omega
theorem aw_no (T : Turn (Item.all []) w0 (Item.all (s.item :: Item.clk gc now 3 :: lg gl g gp false p :: awR gs gc g gl gw gd ba b1 b2)) w) (hok : s.ok N) (hs : s.gs = gs) (hN : N ≤ 100) (hnow0 : 0 ≤ now) (hnow1 : now ≤ 100) (hd0 : 0 ≤ p.done) (hd1 : p.done ≤ 100) (hl : p.a.l.length ≤ 100000) (ha : askedF (some s) now awL since = 190) :
    Calls Try.prog 18 #[.pointer (some ⟨gs, 0, none⟩), .pointer (some ⟨gc, 0, none⟩), .pointer (some ⟨gl, 0, none⟩), .slice (some ⟨ba, 0, none⟩) 2 2, .int .i64 since] w fun e w' => e = .returned (.tuple #[.int .i64 0, .int .i64 190]) ∧
      Turn (Item.all []) w0 (Item.all (s.item :: Item.clk gc now 3 :: lg gl g gp false p :: awR gs gc g gl gw gd ba b1 b2)) w' := by
  subst hs
  exact do_no (c := 2) (since := since) T hok hnow0 (by omega) hd0 (by omega) (A := some ⟨ba, 0, none⟩) (l := awL) (fun w' h => aw_row w' h) aw_size (by simp [awL]; omega) (by simp [awL]; omega) (by rw [if_neg (by simp [awL]), ha]) (.inr (by decide))
theorem aw_conf (T : Turn (Item.all []) w0 (Item.all (s.item :: Item.clk gc now 3 :: lg gl g gp false p :: awR gs gc g gl gw gd ba b1 b2)) w) (hok : s.ok N) (hs : s.gs = gs) (hN : N ≤ 100) :
    Calls Try.prog 19 #[.pointer (some ⟨gs, 0, none⟩), .slice (some ⟨ba, 0, none⟩) 2 2, .int .i64 since] w fun e w' => e = .returned (.bool (aboveP s.view awL since)) ∧
      Turn (Item.all []) w0 (Item.all (s.item :: Item.clk gc now 3 :: lg gl g gp false p :: awR gs gc g gl gw gd ba b1 b2)) w' := by
  subst hs
  have hp := T.p
  refine (conflict_any (c := 2) (since := since) (hok.o (by omega) (T.get (i := 0) rfl)) (B := w.heap.size) (A := some ⟨ba, 0, none⟩) (l := awL) (aw_row w fun i hi => ⟨Item.all_get hp (List.mem_cons_of_mem _ (List.mem_cons_of_mem _ (List.mem_cons_of_mem _ hi))), fun k ho => Item.lt _ (Item.all_get hp (List.mem_cons_of_mem _ (List.mem_cons_of_mem _ (List.mem_cons_of_mem _ hi)))) ho⟩) (Nat.le_refl _) (by simp [awL]) (fun v hv => (aw_size v hv).1)).mono ?_
  rintro e w' ⟨rfl, hb⟩
  exact ⟨by rw [aboveF_view], T.go hb⟩
end
set_option maxRecDepth 100000 in
set_option maxHeartbeats 6400000 in
theorem awake19_any {w : World} : Calls Try.prog 11 #[] w fun e w' => e = .returned (.bool true) ∧ Below w.heap.size w w' := by
  have kc := fun (w : World) (C : Array Value) (n c g : Nat) (h : g = w.heap.size) => Joins.run_convert_bytes_const_at (P := Try.prog) w 29 5 C n c g h Try.underlying29 Try.underlying5
  go_enter Try.func11, Try.ntmps11
  go_wp2_with fail
  refine (fresh_any (w := w) (n := 0) (k := 3) (by decide) (by decide) (by decide) (by decide)).mono ?_
  rintro e w1 ⟨gs, gm, gc, g, gp, ga, gl, gw, gd, rfl, hok, t1⟩
  have HOK := Lib.hid hok
  have T1 := Lib.hid t1
  clear hok t1
  go_upto_region 5 with fail
  clear kc
  obtain ⟨b1, hb1⟩ : ∃ b, b = w1.heap.size := ⟨_, rfl⟩
  obtain ⟨w2, hw2⟩ : ∃ x, x = (w1.alloc (.cells #[.int .u8 49] 5 (1, 2))) := ⟨_, rfl⟩
  have e2 : w2.heap.size = w1.heap.size + 1 := by rw [hw2]; simp
  obtain ⟨w3, hw3⟩ : ∃ x, x = (w2.alloc (.cells #[.int .u8 50] 5 (1, 2))) := ⟨_, rfl⟩
  have e3 : w3.heap.size = w1.heap.size + 1 + 1 := by rw [hw3, ← e2]; simp
  have T2 := (T1.out.litC [49] (cs := #[.int .u8 49]) rfl (1, 2))
  rw [← hw2] at T2
  have T3 := (T2.litC [50] (cs := #[.int .u8 50]) rfl (1, 2))
  rw [← hw3, e2] at T3
  have T4 := T3.lit (e := 33) (size := 4) (n := 2) (cs := #[.string ⟨#[97]⟩, .int .i64 0, .slice (some ⟨w1.heap.size, 0, none⟩) 1 1, .bool false, .string ⟨#[98]⟩, .int .i64 0, .slice (some ⟨w1.heap.size + 1, 0, none⟩) 1 1, .bool false]) (xs := hvCells [⟨awA, some ⟨w1.heap.size, 0, none⟩, 1⟩, ⟨awB, some ⟨w1.heap.size + 1, 0, none⟩, 1⟩]) rfl rfl (by decide)
  rw [e3] at T4
  obtain ⟨w4, hw4⟩ : ∃ x, x = (w3.alloc (.cells #[.string ⟨#[97]⟩, .int .i64 0, .slice (some ⟨w1.heap.size, 0, none⟩) 1 1, .bool false, .string ⟨#[98]⟩, .int .i64 0, .slice (some ⟨w1.heap.size + 1, 0, none⟩) 1 1, .bool false] 33)) := ⟨_, rfl⟩
  rw [← hw4] at T4
  rw [hw3, hw2] at hw4
  rw [← hw4]
  have T5 := Lib.hid (show Turn (Item.all []) w (Item.all (St.item ⟨gs, gm, 0, []⟩ :: Item.clk gc 0 3 :: lg gl g gp false (freshPt ga) :: awR gs gc g gl gw gd (w1.heap.size + 1 + 1) w1.heap.size (w1.heap.size + 1))) w4.drew from (T4.by_ 8 rfl [0, 4, 5, 6, 7, 1, 2, 3] (by decide)).go (Below.refl _ _).drew)
  clear hw2 hw3 hw4 e2 e3 T1 T2 T3 T4
  generalize w1.heap.size + 1 + 1 = ba at T5 ⊢
  generalize w1.heap.size + 1 = b2 at T5 ⊢
  generalize w1.heap.size = b1 at T5 ⊢
  obtain ⟨y0, y1, y3⟩ := wld_cells (T5.out.get (i := 3) rfl)
  have HD1 := Lib.hid (aw_yes (since := 0) T5.out HOK.out rfl (by decide) (by decide) (by decide) (by simp [freshPt]) (by simp [freshPt]) (by simp [freshPt]) (by rw [aw_ask]; rfl))
  clear T5 HOK
  go_region_held3 (fun w' => w'.cell? ⟨gw, 0, none⟩ = some (.pointer (some ⟨gs, 0, none⟩)) ∧ w'.cell? ⟨gw, 1, none⟩ = some (.pointer (some ⟨gc, 0, none⟩)) ∧ w'.cell? ⟨gw, 3, none⟩ = some (.pointer (some ⟨gl, 0, none⟩))) (first | (with_reducible exact ⟨y0, y1, y3⟩) | (with_reducible exact ⟨z0, z1, z3⟩) | go_keep) ((go_at_call 18; refine HD1.out.mono ?_; rintro e w5 ⟨rfl, s1, q1, h1, h2, h3, h4, h5, h6, t⟩; have T := Lib.hid t; obtain ⟨z0, z1, z3⟩ := wld_cells (T.out.get (i := 3) rfl); have H := Lib.hid (And.intro h1 (And.intro h2 (And.intro h3 (And.intro h4 (And.intro h5 h6))))); clear h1 h2 h3 h4 h5 h6 t HD1))
  go_upto_region 6 with fail
  have T5 := Lib.hid (T.out.go (Below.refl _ _).drew)
  clear z0 z1 z3 y0 y1 y3 T
  obtain ⟨y0, y1, y3⟩ := wld_cells (T5.out.get (i := 3) rfl)
  have hv1 : s1.view = applyL [] awL 1 := H.out.2.2.1
  have HD2 := Lib.hid (aw_no (since := 0) T5.out H.out.2.1 H.out.1 (by decide) (by decide) (by decide) H.out.2.2.2.1 (by have := H.out.2.2.2.2.1; simp [freshPt] at this; omega) (by have := H.out.2.2.2.2.2; simp [freshPt] at this; omega) (by rw [aw_ask, hv1]; rfl))
  have HV1 := Lib.hid hv1
  clear T5 hv1
  go_region_held3 (fun w' => w'.cell? ⟨gw, 0, none⟩ = some (.pointer (some ⟨gs, 0, none⟩)) ∧ w'.cell? ⟨gw, 1, none⟩ = some (.pointer (some ⟨gc, 0, none⟩)) ∧ w'.cell? ⟨gw, 3, none⟩ = some (.pointer (some ⟨gl, 0, none⟩))) (first | (with_reducible exact ⟨y0, y1, y3⟩) | (with_reducible exact ⟨z0, z1, z3⟩) | go_keep) ((go_at_call 18; refine HD2.out.mono ?_; rintro e w6 ⟨rfl, t⟩; have T := Lib.hid t; obtain ⟨z0, z1, z3⟩ := wld_cells (T.out.get (i := 3) rfl); clear t HD2))
  go_upto_region 7 with fail
  have T6 := Lib.hid (T.out.go (Below.refl _ _).drew)
  clear z0 z1 z3 y0 y1 y3 T
  obtain ⟨y0, y1, y3⟩ := wld_cells (T6.out.get (i := 3) rfl)
  have HD3 := Lib.hid (aw_yes (since := 1) T6.out H.out.2.1 H.out.1 (by decide) (by decide) (by decide) H.out.2.2.2.1 (by have := H.out.2.2.2.2.1; simp [freshPt] at this; omega) (by have := H.out.2.2.2.2.2; simp [freshPt] at this; omega) (by rw [aw_ask, HV1.out]; rfl))
  clear T6
  go_region_held3 (fun w' => w'.cell? ⟨gw, 0, none⟩ = some (.pointer (some ⟨gs, 0, none⟩)) ∧ w'.cell? ⟨gw, 1, none⟩ = some (.pointer (some ⟨gc, 0, none⟩)) ∧ w'.cell? ⟨gw, 3, none⟩ = some (.pointer (some ⟨gl, 0, none⟩))) (first | (with_reducible exact ⟨y0, y1, y3⟩) | (with_reducible exact ⟨z0, z1, z3⟩) | go_keep) ((go_at_call 18; refine HD3.out.mono ?_; rintro e w7 ⟨rfl, s2, q2, h1, h2, h3, h4, h5, h6, t⟩; have T := Lib.hid t; obtain ⟨z0, z1, z3⟩ := wld_cells (T.out.get (i := 3) rfl); have H2 := Lib.hid (And.intro h1 (And.intro h2 (And.intro h3 (And.intro h4 (And.intro h5 h6))))); clear h1 h2 h3 h4 h5 h6 t HD3))
  have hv2 : s2.view = applyL (applyL [] awL 1) awL 2 := by have := H2.out.2.2.1; rw [HV1.out] at this; exact this
  have HC1 := Lib.hid (aw_conf (since := 1) T.out H2.out.2.1 H2.out.1 (by decide))
  rw [hv2, aw_4] at HC1
  have HV2 := Lib.hid hv2
  clear hv2 y0 y1 y3 T
  go_wp2_with fail
  refine HC1.out.mono ?_
  rintro e w8 ⟨rfl, t8⟩
  have T8 := Lib.hid t8
  have HC2 := Lib.hid (aw_conf (since := 2) T8.out H2.out.2.1 H2.out.1 (by decide))
  rw [HV2.out, aw_5] at HC2
  clear z0 z1 z3 t8 HC1
  obtain ⟨y0, y1, y3⟩ := wld_cells (T8.out.get (i := 3) rfl)
  clear T8
  go_wp2_with fail
  refine HC2.out.mono ?_
  rintro e w9 ⟨rfl, t9⟩
  have T9 := Lib.hid t9
  clear y0 y1 y3 t9 HC2
  obtain ⟨y0, y1, y3⟩ := wld_cells (T9.out.get (i := 3) rfl)
  go_wp2_with fail
  refine (cnow_any (T9.out.get (i := 1) rfl)).mono ?_
  rintro e w10 ⟨rfl, rfl⟩
  go_wp2
  go_ret
  exact ⟨rfl, T9.out.free⟩
end Go.Proofs.Ytoecgkdipgaaeaa
