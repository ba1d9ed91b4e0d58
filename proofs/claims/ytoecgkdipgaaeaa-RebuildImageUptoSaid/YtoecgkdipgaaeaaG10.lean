/- Contracts and plain laws that this claim leans on, laid together: Wal5, EqI, WalP, WalK, RowS, Stor1. -/
import Derived.Test.YtoecgkdipgaaeaaG08
import Derived.Test.YtoecgkdipgaaeaaG09
import Derived.BigQuiet
import Derived.Test.YtoecgkdipgaaeaaG02
import Derived.Deep.QuietTactic
import Derived.Test.YtoecgkdipgaaeaaG05
import Derived.Maps.OwnSet
set_option linter.all false
set_option linter.unusedVariables false
set_option linter.unusedSimpArgs false
set_option linter.unnecessarySimpa false
/- The law's fit and Alike, by contract. -/
namespace Go.Proofs.Ytoecgkdipgaaeaa
open Go.RowKit

theorem en_val {w : World} {B : Nat} {A : Option Addr} {l : List En} (h : kEn.Sl w B A l) {i : Nat} (hi : i < l.length) {b off n c' : Nat} {A' : Option Addr} (hA : A = some ⟨b, off, none⟩) (hc : w.cell? ⟨b, off + i * 6 + 4, none⟩ = some (.slice A' n c')) :
    BReads w B A' (l[i]).value ∧ (l[i]).value.length ≤ c' := by
  obtain ⟨b2, off2, hA2, hb, hr⟩ := h (by omega)
  rw [hA] at hA2
  injection hA2 with hA2
  injection hA2 with e1 e2
  subst e1; subst e2
  obtain ⟨cs, hR, hcs⟩ := hr i _ (List.getElem?_eq_getElem hi)
  obtain ⟨A2, c2, rfl, h1, h2, h3⟩ := en_R hR
  have h4 := hcs 4 _ rfl
  have h5 := hc.symm.trans (show w.cell? ⟨b, off + i * 6 + 4, none⟩ = _ from h4)
  injection h5 with h5
  injection h5 with h6 h7 h8
  subst h6; subst h8
  exact ⟨h2, h3⟩
open Classical in
/-- The entries that may be. -/
noncomputable def fitF (es : List En) : List En := es.filter fun e => decide e.may
theorem fitF_may {es : List En} : ∀ e ∈ fitF es, e.may := fun e he => by
  unfold fitF at he
  simpa using (List.mem_filter.1 he).2
theorem fitF_len (es : List En) : (fitF es).length ≤ es.length := List.length_filter_le _ _
theorem fitF_mem {es : List En} {x : En} (h : x ∈ fitF es) : x ∈ es := (List.mem_filter.1 h).1
theorem fitF_yes {es : List En} {K : Nat} (h : K < es.length) (hm : (es[K]).may) : fitF (es.take (K + 1)) = fitF (es.take K) ++ [es[K]] := by
  unfold fitF
  rw [List.take_succ_eq_append_getElem h, List.filter_append]
  simp [hm]
theorem fitF_no {es : List En} {K : Nat} (h : K < es.length) (hm : ¬ (es[K]).may) : fitF (es.take (K + 1)) = fitF (es.take K) := by
  unfold fitF
  rw [List.take_succ_eq_append_getElem h, List.filter_append]
  simp [hm]
theorem Try.info31 : (Try.prog.info? 31).map (fun i => (i.zero, i.size, i.bytes)) = some (some (.agg #[.int .i64 0, .int .i64 0, .int .i64 0, .string ⟨#[]⟩, .slice none 0 0, .bool false]), 6, 72) := by kernel_rfl
/-- What fit answers. -/
def FitPost (w : World) (B : Nat) (es : List En) (e : Ending) (w' : World) : Prop :=
  ∃ (ts : List Told) (A' : Option Addr) (c' : Nat), ts.map Told.x = fitF es ∧ e = .returned (.slice A' (fitF es).length c') ∧ Turn (Item.all []) w (Item.all [Item.rowT 31 6 (.slice A' (fitF es).length c') (fitF es).length (toldCells ts)]) w' ∧
    ∀ t ∈ ts, t.x.ints ∧ BReads w B t.A t.x.value ∧ t.x.value.length ≤ t.c
end Go.Proofs.Ytoecgkdipgaaeaa
/- slices.Equal of ints, by its contract. -/
namespace Go.Proofs.Ytoecgkdipgaaeaa
open Go.RowKit

/-- Ints as cells. -/
def ivs (l : List Int) : List Value := l.map fun b => Value.int .i64 b
theorem ivs_length (l : List Int) : (ivs l).length = l.length := by simp [ivs]
theorem ivs_get (l : List Int) (k : Nat) : (ivs l)[k]? = (l[k]?).map fun b => Value.int .i64 b := by simp [ivs]
/-- The slice at A reads as the ints l, in blocks below B. -/
def IReads (w : World) (B : Nat) (A : Option Addr) (l : List Int) : Prop := Reads w B 1 A l.length (ivs l)
theorem IReads.at_ {w : World} {B : Nat} {A : Option Addr} {l : List Int} (h : IReads w B A l) {k : Nat} (hk : k < l.length) :
    ∃ b off, A = some ⟨b, off, none⟩ ∧ b < B ∧ w.cell? ⟨b, off + k, none⟩ = some (.int .i64 l[k]) := by
  obtain ⟨b, off, e, hb, hc⟩ := h.2 (by omega)
  exact ⟨b, off, e, hb, hc k _ (by rw [ivs_get, List.getElem?_eq_getElem hk]; rfl)⟩
theorem take_succ_eqI {a b : List Int} {k : Nat} (ha : k < a.length) (hb : k < b.length) (h : a.take k = b.take k) (hx : a[k] = b[k]) : a.take (k + 1) = b.take (k + 1) := by
  rw [List.take_succ_eq_append_getElem ha, List.take_succ_eq_append_getElem hb, h, hx]

end Go.Proofs.Ytoecgkdipgaaeaa
/- What a log tells of its own frames, and of bytes behind them: the plain law. -/
namespace Go.Proofs.Ytoecgkdipgaaeaa
open Go.RowKit

theorem framesF_ge (es : List En) : es.length ≤ (framesF es).length := by
  induction es with
  | nil => simp
  | cons e r ih =>
    have h : framesF (e :: r) = frameF e.enc ++ framesF r := rfl
    rw [h, List.length_append, frameF_len, List.length_cons]; omega
theorem framesF_append (a b : List En) : framesF (a ++ b) = framesF a ++ framesF b := by unfold framesF; simp
/-- Bytes that no frame begins with. -/
def NoMark (z : List UInt8) : Prop := ∀ b, z.head? = some b → b ≠ 197
theorem readF_no {z : List UInt8} (h : NoMark z) : ∃ m, readF z = .error m := by
  unfold readF
  by_cases h0 : z.length = 0
  · exact ⟨_, if_pos h0⟩
  · rw [if_neg h0]
    cases z with
    | nil => exact absurd rfl h0
    | cons b r =>
      have hb := h b rfl
      refine ⟨_, if_pos ?_⟩
      simpa using hb
theorem tellF_junk {es : List En} (hm : ∀ e ∈ es, e.may) {z : List UInt8} (hz : NoMark z) : tellF (framesF es ++ z) = endsF 0 es := by
  have hg := framesF_ge es
  unfold tellF
  have e1 : (framesF es ++ z).length + 1 = ((framesF es ++ z).length - es.length + 1) + es.length := by rw [List.length_append]; omega
  rw [e1, tell_frames es hm (framesF es ++ z) z 0 _ (by rw [List.drop_zero]), allF, Nat.zero_add, List.drop_left' rfl]
  obtain ⟨m, hr⟩ := readF_no hz
  rw [hr]
  simp [tellL]
theorem tellF_frames {es : List En} (hm : ∀ e ∈ es, e.may) : tellF (framesF es) = endsF 0 es := by
  have h := tellF_junk hm (z := []) (fun b h => by cases h)
  rwa [List.append_nil] at h
theorem endsF_fst : ∀ (es : List En) (t : Nat), (endsF t es).map Prod.fst = es
  | [], _ => rfl
  | e :: r, t => by rw [endsF, List.map_cons, endsF_fst r]
theorem endsF_len (es : List En) (t : Nat) : (endsF t es).length = es.length := by
  have := congrArg List.length (endsF_fst es t)
  simpa using this
/-- Where entries that are laid one behind the other end. -/
def offsF (t : Nat) (es : List En) : List Nat := (endsF t es).map Prod.snd
theorem offsF_len (es : List En) (t : Nat) : (offsF t es).length = es.length := by unfold offsF; rw [List.length_map, endsF_len]
theorem told_of {xs : List En} {ns : List Nat} {es : List En} (h : xs.zip ns = endsF 0 es) (hl : ns.length = xs.length) : xs = es ∧ ns = offsF 0 es := by
  have h1 := congrArg (List.map Prod.fst) h
  have h2 := congrArg (List.map Prod.snd) h
  rw [endsF_fst, List.map_fst_zip (by omega)] at h1
  rw [List.map_snd_zip (by omega)] at h2
  exact ⟨h1, h2⟩
theorem offsF_last : ∀ (es : List En) (t : Nat) (h : es ≠ []), (offsF t es).getLast? = some (t + (framesF es).length)
  | [e], t, _ => by simp [offsF, endsF, framesF, frameF_len]
  | e :: f :: r, t, _ => by
    have ih := offsF_last (f :: r) (t + (e.enc.length + 9)) (by simp)
    have h1 : offsF t (e :: f :: r) = (t + (e.enc.length + 9)) :: offsF (t + (e.enc.length + 9)) (f :: r) := rfl
    have h2 : framesF (e :: f :: r) = frameF e.enc ++ framesF (f :: r) := rfl
    have h3 : offsF (t + (e.enc.length + 9)) (f :: r) ≠ [] := by
      intro h
      have := congrArg List.length h
      rw [offsF_len] at this
      simp at this
    rw [h1, h2, List.getLast?_cons_of_ne_nil h3, ih, List.length_append, frameF_len, Nat.add_assoc]
theorem offsF_append : ∀ (a b : List En) (t : Nat), offsF t (a ++ b) = offsF t a ++ offsF (t + (framesF a).length) b
  | [], b, t => by simp [offsF, endsF, framesF]
  | e :: a, b, t => by
    have ih := offsF_append a b (t + (e.enc.length + 9))
    have h1 : ∀ r, offsF t (e :: r) = (t + (e.enc.length + 9)) :: offsF (t + (e.enc.length + 9)) r := fun _ => rfl
    have h2 : framesF (e :: a) = frameF e.enc ++ framesF a := rfl
    rw [List.cons_append, h1, h1, ih, h2, List.length_append, frameF_len, List.cons_append, Nat.add_assoc t]
theorem offsF_shift : ∀ (es : List En) (t : Nat), offsF t es = (offsF 0 es).map (t + ·)
  | [], t => rfl
  | e :: r, t => by
    have h1 : ∀ s, offsF s (e :: r) = (s + (e.enc.length + 9)) :: offsF (s + (e.enc.length + 9)) r := fun _ => rfl
    rw [h1, h1, offsF_shift r (t + _), offsF_shift r (0 + _), List.map_cons, List.map_map]
    congr 1
    · omega
    · apply List.map_congr_left
      intro x _
      show t + (e.enc.length + 9) + x = t + (0 + (e.enc.length + 9) + x)
      omega
/-- Where the entries of a log end. -/
def endsI (base : Int) (es : List En) : List Int := (offsF 0 es).map fun o : Nat => base + (o : Int)
theorem endsI_len (base : Int) (es : List En) : (endsI base es).length = es.length := by unfold endsI; rw [List.length_map, offsF_len]
theorem endsI_append (base : Int) (a b : List En) : endsI base (a ++ b) = endsI base a ++ endsI (base + ((framesF a).length : Nat)) b := by
  unfold endsI
  rw [offsF_append, List.map_append, offsF_shift b (0 + _), List.map_map]
  congr 1
  apply List.map_congr_left
  intro x _
  show base + ((0 + (framesF a).length + x : Nat) : Int) = base + ((framesF a).length : Nat) + (x : Int)
  omega
theorem endsI_take (base : Int) (es : List En) (k : Nat) : endsI base (es.take k) = (endsI base es).take k := by
  by_cases hk : k ≤ es.length
  · conv => rhs; rw [← List.take_append_drop k es, endsI_append]
    rw [List.take_left' (by rw [endsI_len, List.length_take]; omega)]
  · rw [List.take_of_length_le (by omega), List.take_of_length_le (by rw [endsI_len]; omega)]
theorem endsI_drop (base : Int) (es : List En) {k : Nat} (hk : k ≤ es.length) : endsI (base + ((framesF (es.take k)).length : Nat)) (es.drop k) = (endsI base es).drop k := by
  conv => rhs; rw [← List.take_append_drop k es, endsI_append]
  rw [List.drop_left' (by rw [endsI_len, List.length_take]; omega)]
theorem endsI_last (base : Int) {es : List En} (h : es ≠ []) : (endsI base es).getLast? = some (base + ((framesF es).length : Nat)) := by
  unfold endsI
  rw [List.getLast?_map, offsF_last es 0 h, Option.map_some, Nat.zero_add]
theorem endsI_get (base : Int) {es : List En} {i : Nat} (hi : i < es.length) : (endsI base es)[i]? = some (base + ((framesF (es.take (i + 1))).length : Nat)) := by
  have h1 := endsI_last base (es := es.take (i + 1)) (by intro h; have := congrArg List.length h; rw [List.length_take, List.length_nil] at this; omega)
  rw [endsI_take, List.getLast?_eq_getElem?, List.length_take, endsI_len] at h1
  rw [← h1, List.getElem?_take_of_lt (by omega)]
  congr 1; omega
theorem framesF_split (es : List En) (k : Nat) : framesF es = framesF (es.take k) ++ framesF (es.drop k) := by
  rw [← framesF_append, List.take_append_drop]
end Go.Proofs.Ytoecgkdipgaaeaa
/- For the laws about logs: pieces of memory that a law holds, lists of entries in them, a log alone on its disk. -/
namespace Go.Proofs.Ytoecgkdipgaaeaa
open Go.RowKit

section
variable {w w' : World} {a x y : Item} {L : List Item}
theorem Turn.one (h : Turn a w x w') : Turn a w (Item.all [x]) w' :=
  ⟨⟨fun i hi => by simp only [List.mem_cons, List.not_mem_nil, or_false] at hi; subst hi; exact h.p, List.pairwise_singleton _ _⟩, h.k, fun k ⟨i, hi, hk⟩ => by simp only [List.mem_cons, List.not_mem_nil, or_false] at hi; subst hi; exact h.o k hk⟩
theorem Turn.none_ : Turn (Item.all []) w (Item.all []) w := Turn.refl ⟨fun _ h => (by cases h), List.Pairwise.nil⟩
theorem Turn.add (h : Turn a w (Item.all (x :: L)) w') {w'' : World} (hb : Below w'.heap.size w' w'') (hy : y.P w'') (ho : ∀ k, y.own k → w'.heap.size ≤ k) : Turn a w (Item.all (x :: y :: L)) w'' := (h.more hb hy ho).permR (List.Perm.swap _ _ _)
theorem row_new {e : TypeId} {cs : Array Value} {size n : Nat} (hs : cs.size = n * size) (hn : n ≤ 281474976710656) : (w.alloc (.cells cs e)).ownsRow 0 e size (.slice (some ⟨w.heap.size, 0, none⟩) n n) n cs.toList :=
  ⟨by rw [Array.length_toList, hs], .inr ⟨w.heap.size, n, cs, rfl, Nat.zero_le _, World.alloc_heap_new w _, Nat.le_refl _, by unfold maxLen; omega, hs, by rw [← hs, ← Array.length_toList, List.take_length]⟩⟩
theorem own_new {g n c k : Nat} (h : (Value.slice (some ⟨g, 0, none⟩) n c).ownBlock = some k) : g ≤ k := by injection h with h; exact Nat.le_of_eq h
/-- A literal slice, laid behind the first piece. -/
theorem Turn.lit (h : Turn a w (Item.all (x :: L)) w') {e : TypeId} {cs : Array Value} {xs : List Value} {size n : Nat} (hs : cs.size = n * size) (hx : cs.toList = xs) (hn : n ≤ 281474976710656) : Turn a w (Item.all (x :: Item.rowT e size (.slice (some ⟨w'.heap.size, 0, none⟩) n n) n xs :: L)) (w'.alloc (.cells cs e)) :=
  h.add ((Below.refl _ _).alloc (Nat.le_refl _) _) (by rw [← hx]; exact row_new hs hn) (fun k hk => own_new hk)
theorem Turn.litB (h : Turn a w (Item.all (x :: L)) w') {cs : Array Value} {l : List UInt8} (hx : cs.toList = bys l) (hn : l.length ≤ 281474976710656) : Turn a w (Item.all (x :: Item.row (.slice (some ⟨w'.heap.size, 0, none⟩) l.length l.length) l :: L)) (w'.alloc (.cells cs 5)) :=
  h.add ((Below.refl _ _).alloc (Nat.le_refl _) _) (by
    have e : cs.size = l.length * 1 := by rw [← Array.length_toList, hx, bys_length, Nat.mul_one]
    have := row_new (w := w') (e := 5) e hn
    rw [hx] at this; exact this) (fun k hk => own_new hk)
/-- Entries in a row of one's own, and their values. -/
theorem sl_of_row {B : Nat} {A : Option Addr} {c n : Nat} {ts : List Told} (h : (Item.rowT 31 6 (.slice A n c) n (toldCells ts)).P w) (hn : n = ts.length) (hB : ∀ k, (Value.slice A n c).ownBlock = some k → k < B) (hv : ∀ t ∈ ts, t.x.ints ∧ BReads w B t.A t.x.value ∧ t.x.value.length ≤ t.c) : kEn.Sl w B A (ts.map Told.x) := by
  intro hl
  rw [List.length_map] at hl
  have h' : w.ownsRow 0 31 6 (.slice A n c) n (toldCells ts) := h
  rcases h'.2 with ⟨h2, h3⟩ | ⟨g, cap, cur, hv1, _, hh, h4, h5, h6, h7⟩
  · omega
  injection hv1 with hv1
  subst hv1
  refine ⟨g, 0, rfl, hB g rfl, fun j x hx => ?_⟩
  rw [List.getElem?_map] at hx
  obtain ⟨t, ht, rfl⟩ := Option.map_eq_some_iff.1 hx
  have hm := List.mem_of_getElem? ht
  obtain ⟨⟨⟨k1, k2⟩, ⟨s1, s2⟩, ⟨c1, c2⟩⟩, hr, hcap⟩ := hv t hm
  refine ⟨(t.x.cells t.A t.c).toList, ?_, fun i u hu => ?_⟩
  · have wf : ∀ z : Int, -9223372036854775808 ≤ z → z ≤ 9223372036854775807 → (Lit.int .i64 z).wf = true := fun z h1 h2 => by simp [Lit.wf, IntKind.min, IntKind.max, IntKind.signed, IntKind.bits]; omega
    exact ⟨[_], _, rfl, ⟨rfl, wf _ k1 k2⟩, [_], _, rfl, ⟨rfl, wf _ s1 s2⟩, [_], _, rfl, ⟨rfl, wf _ c1 c2⟩, [_], _, rfl, rfl, [_], [_], rfl, ⟨t.A, t.c, rfl, hcap, hr⟩, rfl⟩
  · have hj : j < ts.length := (List.getElem?_eq_some_iff.1 ht).1
    have hi : i < 6 := (List.getElem?_eq_some_iff.1 hu).1
    have e1 : (toldCells ts)[j * 6 + i]? = some u := by
      unfold toldCells
      rw [List.flatMap_def]
      have := flat_get (L := ts.map fun t => (t.x.cells t.A t.c).toList) (n := 6) (i := j) (j := i) (x := (t.x.cells t.A t.c).toList) (fun x hx => by obtain ⟨t', _, rfl⟩ := List.mem_map.1 hx; rfl) (by rw [List.getElem?_map, ht]; rfl) hi
      rw [this]; exact hu
    have hlt : j * 6 + i < n * 6 := by omega
    rw [← h7, List.getElem?_take_of_lt hlt] at e1
    show w.cell? ⟨g, 0 + j * 6 + i, none⟩ = some u
    rw [Nat.zero_add]
    unfold World.cell?
    simp only [hh]
    simpa using e1
end
/-- A log alone on its disk. -/
def lg (gl g gp : Nat) (ar : Bool) (p : Pt) : Item := lgItem gl ⟨g, gp, ar, [p]⟩ 0
theorem may_size {es : List En} (hm : ∀ e ∈ es, e.may) : ∀ e ∈ es, e.key.size ≤ 140737488355328 ∧ e.value.length ≤ 140737488355328 := fun e he => by
  have := En.may_bounds (hm e he)
  exact ⟨by omega, by omega⟩
section
variable {w0 w : World} {x : Item} {rest : List Item} {A : Option Addr} {c n : Nat} {es : List En} {ts : List Told}
theorem stays_args (hf : ∀ k, x.own k → w0.heap.size ≤ k) (hb : Below w0.heap.size w0 w) (h : kEn.Sl w0 w0.heap.size A es) : Stays x.own w (fun w' => kEn.Sl w' w.heap.size A es) := fun w' hk =>
  (h.keep (fun p hp => World.cell?_of_block ((hk p.block (Nat.lt_of_lt_of_le hp hb.size) (fun ho => by have := hf _ ho; omega)).trans (hb.block _ hp)))).more hb.size
theorem stays_row (hT : (Item.all (x :: rest)).P w) (hi : Item.rowT 31 6 (.slice A n c) n (toldCells ts) ∈ rest) (hn : n = ts.length) (hv : ∀ w' : World, (∀ k, k < w.heap.size → ¬ x.own k → w'.heap[k]? = w.heap[k]?) → ∀ t ∈ ts, t.x.ints ∧ BReads w' w.heap.size t.A t.x.value ∧ t.x.value.length ≤ t.c) :
    Stays x.own w (fun w' => kEn.Sl w' w.heap.size A (ts.map Told.x)) := fun w' hk => by
  have hp := Item.all_get hT (List.mem_cons_of_mem _ hi)
  have hd := (List.pairwise_cons.1 hT.2).1 _ hi
  exact sl_of_row (Item.keep _ hp fun k ho => hk k (Item.lt _ hp ho) (fun h => hd k h ho)) hn (fun k ho => Item.lt _ hp ho) (hv w' hk)
theorem stays_old {B : Nat} (hf : ∀ k, x.own k → B ≤ k) (hB : B ≤ w.heap.size) (h : ∀ t ∈ ts, t.x.ints ∧ BReads w B t.A t.x.value ∧ t.x.value.length ≤ t.c) :
    ∀ w' : World, (∀ k, k < w.heap.size → ¬ x.own k → w'.heap[k]? = w.heap[k]?) → ∀ t ∈ ts, t.x.ints ∧ BReads w' w.heap.size t.A t.x.value ∧ t.x.value.length ≤ t.c := fun w' hk t ht => by
  obtain ⟨h1, h2, h3⟩ := h t ht
  exact ⟨h1, (Reads.keep h2 (fun p hp => World.cell?_of_block (hk p.block (Nat.lt_of_lt_of_le hp hB) (fun ho => by have := hf _ ho; omega)))).more hB, h3⟩
theorem told_go {B : Nat} {w w' : World} {ts : List Told} (h : ∀ t ∈ ts, t.x.ints ∧ BReads w B t.A t.x.value ∧ t.x.value.length ≤ t.c) (hb : Below B w w') : ∀ t ∈ ts, t.x.ints ∧ BReads w' B t.A t.x.value ∧ t.x.value.length ≤ t.c := fun t ht => by
  obtain ⟨h1, h2, h3⟩ := h t ht
  exact ⟨h1, h2.below hb, h3⟩
theorem told_back {B : Nat} {w w' : World} {ts : List Told} (h : ∀ t ∈ ts, t.x.ints ∧ BReads w' B t.A t.x.value ∧ t.x.value.length ≤ t.c) (hb : Below B w w') : ∀ t ∈ ts, t.x.ints ∧ BReads w B t.A t.x.value ∧ t.x.value.length ≤ t.c := fun t ht => by
  obtain ⟨h1, h2, h3⟩ := h t ht
  exact ⟨h1, Reads.keep h2 (fun p hp => (hb.cell hp).symm), h3⟩
theorem stays_rows (hT : (Item.all (x :: rest)).P w) (h : ∀ t ∈ ts, t.x.ints ∧ Item.row (.slice t.A t.x.value.length t.c) t.x.value ∈ rest) :
    ∀ w' : World, (∀ k, k < w.heap.size → ¬ x.own k → w'.heap[k]? = w.heap[k]?) → ∀ t ∈ ts, t.x.ints ∧ BReads w' w.heap.size t.A t.x.value ∧ t.x.value.length ≤ t.c := fun w' hk t ht => by
  obtain ⟨h1, h2⟩ := h t ht
  have hp := Item.all_get hT (List.mem_cons_of_mem _ h2)
  have hd := (List.pairwise_cons.1 hT.2).1 _ h2
  have hp' := Item.keep _ hp fun k ho => hk k (Item.lt _ hp ho) (fun h => hd k h ho)
  have ho : BOwns w' 0 (.slice t.A t.x.value.length t.c) t.x.value := hp'
  obtain ⟨A1, c1, e, hc, _⟩ := BOwns.slice ho
  injection e with e1 _ e2
  subst e2
  refine ⟨h1, ⟨ho.reads.1, fun hl => ?_⟩, hc⟩
  obtain ⟨b, off, hA, _, hcl⟩ := ho.reads.2 hl
  exact ⟨b, off, hA, Item.lt _ hp (show (Value.slice t.A _ _).ownBlock = some b from by rw [hA]; rfl), hcl⟩
end
section
variable {w : World} {gl g gp : Nat} {p : Pt} {A : Option Addr} {c : Nat} {es : List En}
theorem write_ok (h : (lg gl g gp false p).P w) (hd0 : 0 ≤ p.done) (hd1 : p.done ≤ 100000000000000000) (hS : Stays (lg gl g gp false p).own w (fun w' => kEn.Sl w' w.heap.size A es)) (hm : ∀ e ∈ es, e.may) (htot : p.a.l.length + 5009 * es.length ≤ 140737488355328) :
    Calls Try.prog 82 #[.pointer (some ⟨gl, 0, none⟩), .slice A es.length c] w fun e w' => e = .returned (.int .i64 0) ∧ ∃ q : Pt, q.a.base = p.a.base ∧ q.a.safe = p.a.safe ∧ q.a.l = p.a.l ++ framesF es ∧ q.done = p.done + es.length ∧ Turn (lg gl g gp false p) w (lg gl g gp false q) w' := by
  refine (lWrite_any (d := ⟨g, gp, false, [p]⟩) 0 (p := p) h (by simp) rfl hd0 hd1 hS (may_size hm) htot).mono ?_
  rintro e w' ⟨K, A', c', m, hK, rfl, _, _, hc, hT⟩
  rcases hc with ⟨rfl, rfl⟩ | ⟨rfl, hK, hn⟩ | ⟨_, _, h, _⟩
  · rw [List.take_length] at hT
    exact ⟨rfl, { p with a := { p.a with A := A', c := c', l := p.a.l ++ framesF es }, done := p.done + es.length }, rfl, rfl, rfl, rfl, hT⟩
  · exact absurd (hm _ (List.getElem_mem hK)) hn
  · cases h
theorem group_ok (h : (lg gl g gp false p).P w) (hd0 : 0 ≤ p.done) (hd1 : p.done ≤ 100000000000000000) (hS : Stays (lg gl g gp false p).own w (fun w' => kEn.Sl w' w.heap.size A es)) (hm : ∀ e ∈ es, e.may) (htot : p.a.l.length + 5009 * es.length ≤ 140737488355328) :
    Calls Try.prog 49 #[.pointer (some ⟨gl, 0, none⟩), .slice A es.length c] w fun e w' => e = .returned (.int .i64 0) ∧ ∃ q : Pt, q.a.base = p.a.base ∧ q.a.safe = (p.a.l ++ framesF es).length ∧ q.a.l = p.a.l ++ framesF es ∧ q.done = p.done + es.length + 1 ∧ Turn (lg gl g gp false p) w (lg gl g gp false q) w' := by
  refine (lGroup_any (d := ⟨g, gp, false, [p]⟩) 0 (p := p) h (by simp) rfl hd0 hd1 hS (may_size hm) htot).mono ?_
  rintro e w' (⟨_, ⟨x, hx, hn⟩, _⟩ | ⟨_, K, A', c', _, _, h, _⟩ | ⟨_, _, A', c', rfl, hT⟩)
  · exact absurd (hm x hx) hn
  · cases h
  · exact ⟨rfl, { p with a := { p.a with A := A', c := c', l := p.a.l ++ framesF es, safe := (p.a.l ++ framesF es).length }, done := p.done + es.length + 1 }, rfl, rfl, rfl, rfl, hT⟩
theorem group_bad (h : (lg gl g gp false p).P w) (hd0 : 0 ≤ p.done) (hd1 : p.done ≤ 100000000000000000) (hS : Stays (lg gl g gp false p).own w (fun w' => kEn.Sl w' w.heap.size A es)) (hks : ∀ e ∈ es, e.key.size ≤ 140737488355328 ∧ e.value.length ≤ 140737488355328) (hm : ¬ ∀ e ∈ es, e.may) (htot : p.a.l.length + 5009 * es.length ≤ 140737488355328) :
    Calls Try.prog 49 #[.pointer (some ⟨gl, 0, none⟩), .slice A es.length c] w fun e w' => e = .returned (.int .i64 100) ∧ Below w.heap.size w w' := by
  refine (lGroup_any (d := ⟨g, gp, false, [p]⟩) 0 (p := p) h (by simp) rfl hd0 hd1 hS hks htot).mono ?_
  rintro e w' (⟨rfl, _, hb⟩ | ⟨h, _⟩ | ⟨h, _⟩)
  · exact ⟨rfl, hb⟩
  · exact absurd h hm
  · exact absurd h hm
end
theorem Turn.join {a : Item} {w w' w'' : World} {L M : List Item} (h : Turn a w (Item.all L) w') (t : Turn (Item.all []) w' (Item.all M) w'') : Turn a w (Item.all (L ++ M)) w'' := by
  have hb := t.free
  have hM : ∀ k, (Item.all M).own k → w'.heap.size ≤ k := fun k hk => by
    rcases t.o k hk with ⟨i, hi, _⟩ | h
    · cases hi
    · exact h
  refine ⟨⟨fun i hi => ?_, List.pairwise_append.2 ⟨h.p.2, t.p.2, fun i hi j hj k h1 h2 => ?_⟩⟩, h.k.trans (Keeps.of_below hb (fun _ => False)) (fun _ h => h.elim), fun k ⟨i, hi, hk⟩ => ?_⟩
  · rcases List.mem_append.1 hi with hi | hi
    · exact Item.go (h.p.1 i hi) hb
    · exact t.p.1 i hi
  · have := i.lt (h.p.1 i hi) h1
    have := hM k ⟨j, hj, h2⟩
    omega
  · rcases List.mem_append.1 hi with hi | hi
    · exact h.o k ⟨i, hi, hk⟩
    · exact .inr (Nat.le_trans h.k.size (hM k ⟨i, hi, hk⟩))
theorem may_ints {x : En} (h : x.may) : x.ints := by
  have := En.may_bounds h
  unfold En.ints; omega
/-- Entries that were told, as a list. -/
theorem sl_told {w : World} {A : Option Addr} {c n : Nat} {ts : List Told} (h : (Item.rowT 31 6 (.slice A n c) n (toldCells ts)).P w) (hn : n = ts.length) (hr : ∀ i ∈ toldRows ts, i.P w) (hm : ∀ e ∈ ts.map Told.x, e.may) : kEn.Sl w w.heap.size A (ts.map Told.x) :=
  sl_of_row h hn (fun k hk => Item.lt _ h hk) (fun t ht => by
    have ho : BOwns w 0 (.slice t.A t.x.value.length t.c) t.x.value := hr _ (List.mem_map.2 ⟨t, ht, rfl⟩)
    obtain ⟨A1, c1, e, hc, hv⟩ := BOwns.slice ho
    injection e with e1 _ e2
    subst e1; subst e2
    exact ⟨may_ints (hm _ (List.mem_map.2 ⟨t, ht, rfl⟩)), hv, hc⟩)
theorem endsV_ivs (base : Int) (es : List En) : endsV base (offsF 0 es) = ivs (endsI base es) := by simp [endsV, ivs, endsI]
/-- Entries, of a log with these entries, and what no frame begins with behind them. -/
def EntsPost (base : Int) (es : List En) (w : World) (e : Ending) (w' : World) : Prop :=
  ∃ (ts : List Told) (A9 A10 : Option Addr) (c9 c10 : Nat), ts.map Told.x = es ∧ e = .returned (.tuple #[.slice A9 es.length c9, .slice A10 es.length c10]) ∧
    Turn (Item.all []) w (Item.all (Item.rowT 31 6 (.slice A9 es.length c9) es.length (toldCells ts) :: Item.rowT 3 1 (.slice A10 es.length c10) es.length (ivs (endsI base es)) :: toldRows ts)) w'
theorem rowI_reads {w : World} {A : Option Addr} {c n : Nat} {l : List Int} (h : (Item.rowT 3 1 (.slice A n c) n (ivs l)).P w) (hn : n = l.length) : IReads w w.heap.size A l ∧ n ≤ c := by
  obtain ⟨A1, c1, e, hc, hr⟩ := own_slice (show w.ownsRow 0 _ 1 _ n _ from h)
  injection e with e1 _ e2
  subst e1; subst e2; subst hn
  exact ⟨hr, hc⟩
theorem IReads.below {w w' : World} {B : Nat} {A : Option Addr} {l : List Int} (h : IReads w B A l) (hb : Below B w w') : IReads w' B A l := Reads.below h hb
theorem IReads.more {w : World} {B B' : Nat} {A : Option Addr} {l : List Int} (h : IReads w B A l) (hb : B ≤ B') : IReads w B' A l := Reads.more h hb
/-- A literal slice of ints. -/
theorem litI_reads {w : World} {cs : Array Value} {l : List Int} (hx : cs.toList = ivs l) : IReads (w.alloc (.cells cs 3)) (w.alloc (.cells cs 3)).heap.size (some ⟨w.heap.size, 0, none⟩) l := by
  refine ⟨by rw [ivs_length]; omega, fun _ => ⟨w.heap.size, 0, rfl, by simp, fun j u hu => ?_⟩⟩
  rw [Nat.zero_add, (Blk.new w 3 cs).cell j, ← hu, ← hx, Array.getElem?_toList]
theorem append_ok {w : World} {gl g gp : Nat} {p : Pt} (h : (lg gl g gp false p).P w) (hd0 : 0 ≤ p.done) (hd1 : p.done ≤ 1000000000000000000) {c : Nat} {A : Option Addr} {b : List UInt8} (hr : BReads w w.heap.size A b) (hl : p.a.l.length + b.length ≤ 140737488355328) :
    Calls Try.prog 104 #[.pointer (some ⟨g, 0, none⟩), .int .i64 0, .slice A b.length c] w fun e w' => e = .returned (.int .i64 0) ∧ ∃ q : Pt, q.a.base = p.a.base ∧ q.a.safe = p.a.safe ∧ q.a.l = p.a.l ++ b ∧ q.done = p.done + 1 ∧ Turn (lg gl g gp false p) w (lg gl g gp false q) w' := by
  refine (dAppend_any (d := ⟨g, gp, false, [p]⟩) (lg_disk h) (by simp) 0 (p := p) rfl hd0 hd1 (fun h => by cases h) hr hl).mono ?_
  rintro e w' ⟨b', ⟨A', c', rfl⟩, _, rfl, t⟩
  exact ⟨rfl, { p with a := { p.a with A := A', c := c', l := p.a.l ++ b }, done := p.done + 1 }, rfl, rfl, rfl, rfl, lg_turn h t rfl⟩
theorem opens_ens : Opens (kSlice kEn) 25 := opens_slice (by kernel_rfl) Try.underlying25 opens_en (by decide) (of_decide_eq_true (by kernel_rfl))
theorem ens_bulk : ∀ (l : List En), 6 * l.length + 1 ≤ (kSlice kEn).bulk l ∧ ∀ e ∈ l, e.key.size + e.value.length ≤ (kSlice kEn).bulk l
  | [] => ⟨Nat.le_refl _, fun e he => by cases he⟩
  | x :: l => by
    obtain ⟨h1, h2⟩ := ens_bulk l
    have e1 : (kSlice kEn).bulk (x :: l) = kEn.bulk x + (kSlice kEn).bulk l := by
      show (kEn.bulk x :: l.map kEn.bulk).sum + 1 = kEn.bulk x + ((l.map kEn.bulk).sum + 1)
      rw [List.sum_cons]; omega
    have h3 : 6 ≤ kEn.bulk x := by
      show 6 ≤ 1 + (1 + (1 + ((x.key.size + 1) + ((x.value.length + 1) + 1)))); omega
    have h4 := en_bulk x
    refine ⟨by rw [e1, List.length_cons]; omega, fun e he => ?_⟩
    rw [e1]
    rcases List.mem_cons.1 he with rfl | he
    · omega
    · have := h2 e he; omega
theorem ens_size {l : List En} (h : (kSlice kEn).bulk l ≤ 1048576) : ∀ e ∈ l, e.key.size ≤ 140737488355328 ∧ e.value.length ≤ 140737488355328 := fun e he => by
  have := (ens_bulk l).2 e he
  exact ⟨by omega, by omega⟩
theorem Turn.fresh {w w' : World} {x : Item} {L : List Item} {i : Nat} (h : Turn (Item.all []) w (Item.all L) w') (hi : L[i]? = some x) : ∀ k, x.own k → w.heap.size ≤ k := fun k hk => by
  rcases h.o k ⟨x, List.mem_of_getElem? hi, hk⟩ with ⟨j, hj, _⟩ | h
  · cases hj
  · exact h
theorem stays_fit {w0 w : World} {x : Item} {rest : List Item} {A : Option Addr} {c : Nat} {F : List En} {ts : List Told} (T : Turn (Item.all []) w0 (Item.all (x :: rest)) w) (hi : Item.rowT 31 6 (.slice A F.length c) F.length (toldCells ts) ∈ rest) (hts : ts.map Told.x = F) (hv : ∀ t ∈ ts, t.x.ints ∧ BReads w w0.heap.size t.A t.x.value ∧ t.x.value.length ≤ t.c) :
    Stays x.own w (fun w' => kEn.Sl w' w.heap.size A F) := by
  have := stays_row T.p hi (by rw [← hts, List.length_map]) (stays_old (T.fresh (i := 0) rfl) T.k.size hv)
  rwa [hts] at this
/-- A list that fit made, as it reads. -/
theorem sl_fit {w : World} {B : Nat} (hB : B ≤ w.heap.size) {A : Option Addr} {c : Nat} {F : List En} {ts : List Told} (h : (Item.rowT 31 6 (.slice A F.length c) F.length (toldCells ts)).P w) (hts : ts.map Told.x = F) (hv : ∀ t ∈ ts, t.x.ints ∧ BReads w B t.A t.x.value ∧ t.x.value.length ≤ t.c) : kEn.Sl w w.heap.size A F := by
  have := sl_of_row h (by rw [← hts, List.length_map]) (fun k ho => Item.lt _ h ho) (fun t ht => ⟨(hv t ht).1, (hv t ht).2.1.more hB, (hv t ht).2.2⟩)
  rwa [hts] at this
/-- The entries that Entries told, as they read. -/
theorem sl_ents {w : World} {A : Option Addr} {c : Nat} {F : List En} {ts : List Told} {L : List Item} (h : (Item.all L).P w) (h1 : Item.rowT 31 6 (.slice A F.length c) F.length (toldCells ts) ∈ L) (h2 : ∀ i ∈ toldRows ts, i ∈ L) (hts : ts.map Told.x = F) (hm : ∀ e ∈ F, e.may) : kEn.Sl w w.heap.size A F := by
  have := sl_told (Item.all_get h h1) (by rw [← hts, List.length_map]) (fun i hi => Item.all_get h (h2 i hi)) (by rw [hts]; exact hm)
  rwa [hts] at this
section
variable {w : World} {gl g gp : Nat} {p : Pt} {k : Nat}
end
theorem sl_drop {α : Type} {K : Kd α} {w : World} {B k : Nat} {A : Option Addr} {l : List α} (h : K.Sl w B A l) : K.Sl w B (A.map (·.add (k * K.size))) (l.drop k) := by
  intro hl
  rw [List.length_drop] at hl
  obtain ⟨b, off, hA, hb, hr⟩ := h (by omega)
  refine ⟨b, off + k * K.size, by rw [hA]; simp [Addr.add], hb, fun j x hx => ?_⟩
  rw [List.getElem?_drop] at hx
  obtain ⟨cs, h1, h2⟩ := hr (k + j) x hx
  refine ⟨cs, h1, fun t u hu => ?_⟩
  have := h2 t u hu
  rwa [Nat.add_mul, ← Nat.add_assoc] at this
theorem sl_take {α : Type} {K : Kd α} {w : World} {B k : Nat} {A : Option Addr} {l : List α} (h : K.Sl w B A l) : K.Sl w B A (l.take k) := by
  intro hl
  rw [List.length_take] at hl
  obtain ⟨b, off, hA, hb, hr⟩ := h (by omega)
  refine ⟨b, off, hA, hb, fun j x hx => hr j x ?_⟩
  have hj : j < (l.take k).length := (List.getElem?_eq_some_iff.1 hx).1
  rw [List.length_take] at hj
  rwa [List.getElem?_take_of_lt (by omega)] at hx
theorem sl_nil {α : Type} {K : Kd α} {w : World} {B : Nat} {A : Option Addr} : K.Sl w B A [] := fun h => absurd h (Nat.lt_irrefl 0)
theorem ir_drop {w : World} {B k : Nat} {A : Option Addr} {l : List Int} (h : IReads w B A l) : IReads w B (A.map (·.add k)) (l.drop k) := by
  refine ⟨by rw [ivs_length]; omega, fun hl => ?_⟩
  rw [List.length_drop] at hl
  obtain ⟨b, off, hA, hb, hr⟩ := h.2 (by omega)
  refine ⟨b, off + k, by rw [hA]; simp [Addr.add], hb, fun j u hu => ?_⟩
  rw [ivs_get, List.getElem?_drop, ← ivs_get] at hu
  have := hr (k + j) u hu
  rwa [← Nat.add_assoc] at this
theorem ir_take {w : World} {B k : Nat} {A : Option Addr} {l : List Int} (h : IReads w B A l) : IReads w B A (l.take k) := by
  refine ⟨by rw [ivs_length]; omega, fun hl => ?_⟩
  rw [List.length_take] at hl
  obtain ⟨b, off, hA, hb, hr⟩ := h.2 (by omega)
  refine ⟨b, off, hA, hb, fun j u hu => ?_⟩
  have hj : j < (ivs (l.take k)).length := (List.getElem?_eq_some_iff.1 hu).1
  rw [ivs_length, List.length_take] at hj
  rw [ivs_get, List.getElem?_take_of_lt (by omega), ← ivs_get] at hu
  exact hr j u hu
theorem ir_nil {w : World} {B : Nat} {A : Option Addr} : IReads w B A [] := ⟨rfl, fun h => absurd h (Nat.lt_irrefl 0)⟩
end Go.Proofs.Ytoecgkdipgaaeaa
/- Rows of any elements: a cell read, a cell written; a row whose cells nobody asks for. -/
namespace Go.Proofs.Ytoecgkdipgaaeaa
open Go.RowKit

theorem rowT_at {w : World} {e : TypeId} {size n c : Nat} {A : Option Addr} {xs : List Value} (h : (Item.rowT e size (.slice A n c) n xs).P w) (hp : 0 < n) :
    ∃ g, A = some ⟨g, 0, none⟩ ∧ g < w.heap.size ∧ n ≤ c ∧ xs.length = n * size ∧ (∀ k, w.frozen? ⟨g, k, none⟩ = false) ∧ ∀ k, k < n * size → w.cell? ⟨g, k, none⟩ = xs[k]? := by
  have h' : w.ownsRow 0 e size (.slice A n c) n xs := h
  rcases h'.2 with ⟨_, h3⟩ | ⟨g, cap, cur, hv, _, hh, h4, h5, h6, h7⟩
  · omega
  injection hv with e1 _ e2
  subst e1; subst e2
  refine ⟨g, rfl, (Array.getElem?_eq_some_iff.1 hh).1, h4, h'.1, fun k => ?_, fun k hk => ?_⟩
  · have hb : Blk w g e cur := hh
    exact hb.frozen k
  · have hb : Blk w g e cur := hh
    rw [hb.cell k, ← h7, List.getElem?_take_of_lt hk, Array.getElem?_toList]
theorem rowT_set {w : World} {e : TypeId} {size n c g : Nat} {xs : List Value} (h : (Item.rowT e size (.slice (some ⟨g, 0, none⟩) n c) n xs).P w) {k : Nat} (hk : k < n * size) (u : Value) :
    Turn (Item.rowT e size (.slice (some ⟨g, 0, none⟩) n c) n xs) w (Item.rowT e size (.slice (some ⟨g, 0, none⟩) n c) n (xs.set k u)) (w.setCell ⟨g, k, none⟩ u) := by
  have h' : w.ownsRow 0 e size (.slice (some ⟨g, 0, none⟩) n c) n xs := h
  rcases h'.2 with ⟨hv, _⟩ | ⟨g', cap, cur, hv, _, hh, h4, h5, h6, h7⟩
  · cases hv
  injection hv with e1 _ e2
  injection e1 with e1
  injection e1 with e1
  subst e1; subst e2
  have hb : Blk w g e cur := hh
  have hb2 := hb.set_ k u
  refine ⟨⟨by rw [List.length_set]; exact h'.1, .inr ⟨g, c, cur.setIfInBounds k u, rfl, Nat.zero_le _, hb2, h4, h5, by rw [Array.size_setIfInBounds]; exact h6, ?_⟩⟩, (Keeps.refl (fun k => (Value.slice (some ⟨g, 0, none⟩) n c).ownBlock = some k) w).setCell (p := ⟨g, k, none⟩) (.inl rfl) u, fun k hk => .inl hk⟩
  rw [Array.toList_setIfInBounds, ← h7, List.take_set]
end Go.Proofs.Ytoecgkdipgaaeaa
/- Chains and stores: lists of pairs by key; how chains and stores lie in memory. -/
namespace Go.Proofs.Ytoecgkdipgaaeaa
open Go.RowKit
open Go.Maps (Keyed string_keyed)

/-! Pairs by key, rising. -/
section
variable {β γ : Type}
abbrev Key := List UInt8
def insA (x : Key × β) : List (Key × β) → List (Key × β)
  | [] => [x]
  | y :: r => if bytesBefore x.1 y.1 then x :: y :: r else y :: insA x r
def othersA (k : Key) (l : List (Key × β)) : List (Key × β) := l.filter fun p => !(p.1 == k)
def getA (k : Key) (l : List (Key × β)) : Option β := (l.find? fun p => p.1 == k).map (·.2)
def putA (k : Key) (b : β) (l : List (Key × β)) : List (Key × β) := insA (k, b) (othersA k l)
def mapA (f : β → γ) (l : List (Key × β)) : List (Key × γ) := l.map fun p => (p.1, f p.2)
theorem insA_perm (x : Key × β) : ∀ l, (insA x l).Perm (x :: l)
  | [] => List.Perm.refl _
  | y :: r => by
    unfold insA
    split
    · exact List.Perm.refl _
    · exact ((insA_perm x r).cons y).trans (List.Perm.swap x y r)
theorem insA_map (f : β → γ) (x : Key × β) : ∀ l, mapA f (insA x l) = insA (x.1, f x.2) (mapA f l)
  | [] => rfl
  | y :: r => by
    unfold insA
    split
    · rename_i h
      show _ = insA _ ((y.1, f y.2) :: mapA f r)
      rw [insA, if_pos h]; rfl
    · rename_i h
      show _ = insA _ ((y.1, f y.2) :: mapA f r)
      rw [insA, if_neg h]
      show (y.1, f y.2) :: mapA f (insA x r) = _
      rw [insA_map f x r]
theorem othersA_map (f : β → γ) (k : Key) (l : List (Key × β)) : mapA f (othersA k l) = othersA k (mapA f l) := by
  unfold mapA othersA
  rw [List.filter_map]; rfl
theorem getA_map (f : β → γ) (k : Key) (l : List (Key × β)) : getA k (mapA f l) = (getA k l).map f := by
  unfold getA mapA
  rw [List.find?_map, Option.map_map, Option.map_map]; rfl
theorem putA_map (f : β → γ) (k : Key) (b : β) (l : List (Key × β)) : mapA f (putA k b l) = putA k (f b) (mapA f l) := by
  unfold putA
  rw [insA_map, othersA_map]
theorem putA_perm (k : Key) (b : β) (l : List (Key × β)) : (putA k b l).Perm ((k, b) :: othersA k l) := insA_perm _ _
theorem getA_mem {k : Key} {b : β} {l : List (Key × β)} (h : getA k l = some b) : (k, b) ∈ l := by
  unfold getA at h
  obtain ⟨p, hp, rfl⟩ := Option.map_eq_some_iff.1 h
  have h1 := List.mem_of_find?_eq_some hp
  have h2 := List.find?_some hp
  simp only [beq_iff_eq] at h2
  subst h2
  exact h1
theorem getA_none {k : Key} {l : List (Key × β)} (h : getA k l = none) : othersA k l = l := by
  unfold getA at h
  rw [Option.map_eq_none_iff, List.find?_eq_none] at h
  unfold othersA
  rw [List.filter_eq_self]
  intro p hp
  have := h p hp
  simpa using this
def Apart (l : List (Key × β)) : Prop := l.Pairwise fun p q => p.1 ≠ q.1
theorem getA_perm {k : Key} {b : β} : ∀ {l : List (Key × β)}, Apart l → getA k l = some b → l.Perm ((k, b) :: othersA k l)
  | [], _, h => by cases h
  | y :: r, ha, h => by
    obtain ⟨h1, h2⟩ := List.pairwise_cons.1 ha
    by_cases e : y.1 = k
    · have hr : othersA k r = r := by
        unfold othersA
        rw [List.filter_eq_self]
        intro p hp
        have := h1 p hp
        simp only [Bool.not_eq_true', beq_eq_false_iff_ne, ne_eq]
        intro e2
        exact this (e.trans e2.symm)
      have e2 : y = (k, b) := by
        unfold getA at h
        rw [List.find?_cons_of_pos (by simpa using e)] at h
        simp only [Option.map_some, Option.some.injEq] at h
        rw [← e, ← h]
      have e3 : othersA k (y :: r) = r := by
        rw [← hr]
        unfold othersA
        rw [List.filter_cons_of_neg (by simpa using e), List.filter_filter]
        simp
      rw [e3, e2]
    · have e3 : othersA k (y :: r) = y :: othersA k r := by
        unfold othersA
        rw [List.filter_cons_of_pos (by simpa using e)]
      have h' : getA k r = some b := by
        unfold getA at h ⊢
        rwa [List.find?_cons_of_neg (by simpa using e)] at h
      rw [e3]
      exact ((getA_perm h2 h').cons y).trans (List.Perm.swap _ _ _)
theorem Apart.perm {l m : List (Key × β)} (h : Apart l) (hp : l.Perm m) : Apart m := hp.pairwise h fun {a b} (h : a.1 ≠ b.1) => h.symm
theorem apart_put {k : Key} {b : β} {l : List (Key × β)} (h : Apart l) : Apart (putA k b l) :=
  Apart.perm (List.pairwise_cons.2 ⟨fun p hp => by
    have := (List.mem_filter.1 hp).2
    simp only [Bool.not_eq_true', beq_eq_false_iff_ne, ne_eq] at this
    exact fun e => this e.symm, h.filter _⟩) (putA_perm k b l).symm
theorem getA_put {k : Key} {b : β} {l : List (Key × β)} : getA k (putA k b l) = some b := by
  have hm : (k, b) ∈ putA k b l := (putA_perm k b l).mem_iff.2 (List.mem_cons_self ..)
  unfold getA
  cases hf : (putA k b l).find? (fun p => p.1 == k) with
  | none => rw [List.find?_eq_none] at hf; exact absurd (hf _ hm) (by simp)
  | some p =>
    have h1 := List.mem_of_find?_eq_some hf
    have h2 := List.find?_some hf
    simp only [beq_iff_eq] at h2
    rcases List.mem_cons.1 ((putA_perm k b l).mem_iff.1 h1) with rfl | h3
    · rfl
    · have := (List.mem_filter.1 h3).2
      simp [h2] at this
theorem apart_iff {f : β → γ} {l : List (Key × β)} : Apart (mapA f l) ↔ Apart l := by
  unfold Apart mapA
  rw [List.pairwise_map]
end

/-! What lies in memory. -/
/-- What there was from a stamp on. -/
structure Lv where
  st : Int
  v : List UInt8
  dead : Bool
/-- A link, and where its value lies. -/
structure Lk where
  x : Lv
  A : Option Addr
  c : Nat
def Lk.cells (l : Lk) : List Value := [.int .i64 l.x.st, .slice l.A l.x.v.length l.c, .bool l.x.dead]
def Lk.item (l : Lk) : Item := Item.row (.slice l.A l.x.v.length l.c) l.x.v
def lkCells (ls : List Lk) : List Value := ls.flatMap Lk.cells
/-- A chain. -/
structure Ch where
  g : Nat
  A : Option Addr
  c : Nat
  ls : List Lk
def Ch.row (h : Ch) : Value := .slice h.A h.ls.length h.c
def Ch.pieces (h : Ch) : List Item := Item.blk h.g 122 #[h.row] :: Item.rowT 96 3 h.row h.ls.length (lkCells h.ls) :: h.ls.map Lk.item
def Ch.item (h : Ch) : Item := Item.all h.pieces
def Ch.vs (h : Ch) : List Lv := h.ls.map Lk.x
def ptrG : Option Nat → Value
  | some g => .pointer (some ⟨g, 0, none⟩)
  | none => .pointer none
/-- How a chain in a map reads: as the number of its block. -/
def chR : Value → Option (DataW Unit × List MemPlace)
  | .pointer none => some (.nil, [])
  | .pointer (some ⟨g, 0, none⟩) => some (.lit (.int .i64 g), [])
  | _ => none
theorem chR_some {v : Value} {g : Int} {ps : List MemPlace} (h : chR v = some (.lit (.int .i64 g), ps)) : ∃ n : Nat, (n : Int) = g ∧ v = .pointer (some ⟨n, 0, none⟩) := by
  unfold chR at h
  split at h
  · cases h
  · rename_i n
    simp only [Option.some.injEq, Prod.mk.injEq, DataW.lit.injEq, Lit.int.injEq, true_and] at h
    exact ⟨n, h.1, rfl⟩
  · cases h
theorem chR_nil {v : Value} {ps : List MemPlace} (h : chR v = some (.nil, ps)) : v = .pointer none := by
  unfold chR at h
  split at h
  · rfl
  · cases h
  · cases h
def dS (cs : List (Key × Nat)) : DataW Unit := .map (cs.map fun p => (Lit.string p.1, .lit (.int .i64 p.2)))
theorem dS_at (cs : List (Key × Nat)) (k : Key) : (dS cs).atKey (.string k) .nil = match getA k cs with | some g => .lit (.int .i64 g) | none => .nil := by
  unfold dS DataW.atKey
  simp only
  rw [List.find?_map]
  have h2 : ((fun p : Lit × DataW Unit => p.1.sameKey (.string k)) ∘ fun p : Key × Nat => (Lit.string p.1, (DataW.lit (.int .i64 p.2) : DataW Unit))) = fun p => p.1 == k := by
    funext p; rfl
  rw [h2]
  unfold getA
  cases cs.find? (fun p => p.1 == k) <;> rfl
theorem dS_ins (k : Key) (g : Nat) : ∀ cs : List (Key × Nat), DataW.insert (Lit.string k, (.lit (.int .i64 g) : DataW Unit)) (cs.map fun p => (Lit.string p.1, .lit (.int .i64 p.2))) = (insA (k, g) cs).map fun p => (Lit.string p.1, .lit (.int .i64 p.2))
  | [] => rfl
  | y :: r => by
    rw [List.map_cons, DataW.insert, insA]
    show (if bytesBefore k y.1 = true then _ else _) = _
    split
    · rw [List.map_cons, List.map_cons]
    · rw [List.map_cons, dS_ins k g r]
theorem dS_put (cs : List (Key × Nat)) (k : Key) (g : Nat) : (dS cs).put (.string k) (.lit (.int .i64 g)) = dS (putA k g cs) := by
  have h1 : (dS cs).put (.string k) (.lit (.int .i64 g)) = .map (DataW.insert (Lit.string k, .lit (.int .i64 g)) ((cs.map fun p => (Lit.string p.1, (DataW.lit (.int .i64 p.2) : DataW Unit))).filter fun p => !p.1.sameKey (.string k))) := rfl
  rw [h1, List.filter_map]
  have h2 : ((fun p : Lit × DataW Unit => !p.1.sameKey (.string k)) ∘ fun p : Key × Nat => (Lit.string p.1, (DataW.lit (.int .i64 p.2) : DataW Unit))) = fun p => !(p.1 == k) := by
    funext p; rfl
  rw [h2, dS_ins]; rfl
/-- A map from keys to blocks. -/
def Item.map (gm : Nat) (cs : List (Key × Nat)) : Item where
  own := fun k => k = gm
  P := fun w => w.ownsMap Try.prog 9 chR gm cs.length (dS cs)
  keep := fun h hk => by
    obtain ⟨es, clock, hb, F, hs, hD⟩ := h
    exact ⟨es, clock, (hk gm rfl).trans hb, F, hs, hD⟩
  lt := fun h e => by subst e; exact h.lt
theorem map_tight {w : World} {gm n : Nat} {cs : List (Key × Nat)} (h : w.ownsMap Try.prog 9 chR gm n (dS cs)) : (Item.map gm cs).P w := by
  obtain ⟨es, clock, hb, F, hs, hD⟩ := h
  refine ⟨es, clock, hb, F, ?_, hD⟩
  have h1 : (cs.map fun p => (Lit.string p.1, (DataW.lit (.int .i64 p.2) : DataW Unit))) = (es.toList.map (Go.WideElems.rg Try.prog 9 chR)).foldr DataW.insert [] := by
    unfold dS at hD
    injection hD
  have h2 := congrArg List.length h1
  simp only [List.length_map, length_sorted, Array.length_toList] at h2
  exact Nat.le_of_eq h2.symm
/-- A store. -/
structure St where
  gs : Nat
  gm : Nat
  live : Int
  cs : List (Key × Ch)
def St.pieces (s : St) : List Item := Item.blk s.gs 118 #[.map (some s.gm), .int .i64 s.live] :: Item.map s.gm (mapA Ch.g s.cs) :: s.cs.map (fun p => p.2.item)
def St.item (s : St) : Item := Item.all s.pieces
def St.view (s : St) : List (Key × List Lv) := mapA Ch.vs s.cs
section
variable {w w' : World} {s : St}
theorem St.blk (h : s.item.P w) : Blk w s.gs 118 #[.map (some s.gm), .int .i64 s.live] := Item.all_get h (List.mem_cons_self ..)
theorem St.map (h : s.item.P w) : (Item.map s.gm (mapA Ch.g s.cs)).P w := Item.all_get h (List.mem_cons_of_mem _ (List.mem_cons_self ..))
theorem St.ch (h : s.item.P w) {k : Key} {c : Ch} (hc : (k, c) ∈ s.cs) : c.item.P w := Item.all_get h (List.mem_cons_of_mem _ (List.mem_cons_of_mem _ (List.mem_map.2 ⟨(k, c), hc, rfl⟩)))
theorem St.get (h : s.item.P w) {k : Key} {c : Ch} (hc : getA k s.cs = some c) : c.item.P w := St.ch h (getA_mem hc)
set_option maxRecDepth 100000 in
/-- What the program's look-up answers. -/
theorem St.look (h : s.item.P w) {key : ByteArray} (hk : key.size ≤ maxLen) :
    (Instr.lookup 116 (.map (some s.gm)) (.string key) false).run Try.prog w = .ok (ptrG ((getA key.data.toList s.cs).map Ch.g)) w := by
  obtain ⟨v, ps, hr, hv⟩ := (St.map h).lookup (string_keyed Try.underlying9) Try.underlying116 (z := .pointer none) rfl (zd := .nil) (zp := []) rfl (key := .string key) (kl := .string key.data.toList) (WideMaps.keyOf_string_mk Try.underlying9 hk)
  rw [dS_at, getA_map] at hv
  rw [hr]
  congr 1
  cases hg : getA key.data.toList s.cs with
  | none =>
    rw [hg] at hv
    exact chR_nil hv
  | some c =>
    rw [hg] at hv
    obtain ⟨n, hn, rfl⟩ := chR_some hv
    have : n = c.g := by omega
    subst this; rfl
end
end Go.Proofs.Ytoecgkdipgaaeaa
