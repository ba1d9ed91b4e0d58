/- Contracts and plain laws that this claim leans on, laid together: ComP, Com5, Wal6, CFr, Cmt1, Load, Ent13, Chn, RangeN. -/
import Derived.Test.YtmnpchncmbnddaaGreatG12
import Derived.Test.YtmnpchncmbnddaaGreatG11
import Derived.Test.YtmnpchncmbnddaaGreatG08
import Derived.Lib.SmallJoins
import Derived.Test.YtmnpchncmbnddaaGreatG09
import Derived.Test.YtmnpchncmbnddaaGreatG04
set_option linter.all false
set_option linter.unusedVariables false
set_option linter.unusedSimpArgs false
set_option linter.unnecessarySimpa false
/- Commits: what the writes that are not refused are (no program). -/
namespace Go.Proofs.YtmnpchncmbnddaaGreat
open Go.RowKit

theorem bytesLess_eq : ∀ a b : List UInt8, Op.bytesLess a b = bytesBefore a b
  | [], [] => rfl
  | [], _ :: _ => rfl
  | _ :: _, [] => rfl
  | a :: x, b :: y => by simp only [Op.bytesLess, bytesBefore]; rw [bytesLess_eq x y]
theorem bB_trans {a b c : Key} (h : bytesBefore a b = true) (h' : bytesBefore b c = true) : bytesBefore a c = true :=
  WideShapes.before_trans (a := .string a) (b := .string b) (c := .string c) h h'
theorem bB_irrefl (a : Key) : bytesBefore a a = false := WideShapes.before_irrefl (.string a)
theorem bB_total : ∀ {a b : Key}, a ≠ b → bytesBefore a b = true ∨ bytesBefore b a = true
  | [], [], h => absurd rfl h
  | [], _ :: _, _ => .inl rfl
  | _ :: _, [], _ => .inr rfl
  | a :: x, b :: y, h => by
    simp only [bytesBefore, Bool.or_eq_true, decide_eq_true_eq, Bool.and_eq_true, beq_iff_eq]
    by_cases hab : a = b
    · subst hab
      have hxy : x ≠ y := fun e => h (by rw [e])
      rcases bB_total hxy with h1 | h1
      · exact .inl (.inr ⟨rfl, h1⟩)
      · exact .inr (.inr ⟨rfl, h1⟩)
    · rcases Nat.lt_or_ge a.toNat b.toNat with h1 | h1
      · exact .inl (.inl h1)
      · refine .inr (.inl ?_)
        have : a.toNat ≠ b.toNat := fun e => hab (UInt8.toNat_inj.1 e)
        show b.toNat < a.toNat
        omega
def Vn.k (v : Vn) : Key := v.key.data.toList
/-- A store, plainly: of each key its versions. -/
abbrev PS := List (Key × List Lv)
def ofP (S : PS) (k : Key) : List Lv := (getA k S).getD []
def applyP (S : PS) (v : Vn) : PS := putA v.k (ofP S v.k ++ [⟨v.stamp, v.value, v.dead⟩]) S
theorem ofO_vs (s : St) (k : Key) : (Ch.ofO (getA k s.cs)).map Lk.x = ofP s.view k := by
  unfold ofP St.view
  rw [getA_map]
  cases getA k s.cs <;> rfl
theorem view_put {s : St} {v : Vn} {c : Ch} {l : Lk} {lv : Int} (hc : c.ls = Ch.ofO (getA v.k s.cs) ++ [l]) (hl : l.x = ⟨v.stamp, v.value, v.dead⟩) : St.view ⟨s.gs, s.gm, lv, putA v.k c s.cs⟩ = applyP s.view v := by
  unfold St.view applyP
  rw [putA_map]
  congr 1
  show c.ls.map Lk.x = _
  rw [hc, List.map_append, ofO_vs, List.map_singleton, hl]; rfl
end Go.Proofs.YtmnpchncmbnddaaGreat
/- Commits: Do, by contract. -/
namespace Go.Proofs.YtmnpchncmbnddaaGreat
open Go.RowKit

/-- The newest of versions. -/
def lastP (L : List Lv) : Int := (L.getLast?.map Lv.st).getD 0
theorem lastL_vs (ls : List Lk) : (lastL ls).x.st = lastP (ls.map Lk.x) := by
  unfold lastL lastP
  rw [List.getLast?_map]
  cases ls.getLast? <;> rfl
end Go.Proofs.YtmnpchncmbnddaaGreat
/- The laws' walFixed, by contract: a row of calls whose answers are fixed. -/
namespace Go.Proofs.YtmnpchncmbnddaaGreat
open Go.RowKit

end Go.Proofs.YtmnpchncmbnddaaGreat
/- Law 19: the references' New, by contract. -/
namespace Go.Proofs.YtmnpchncmbnddaaGreat
open Go.RowKit

/-- Pieces in another order. -/
theorem Turn.by_ {a : Item} {w w' : World} {L : List Item} (t : Turn a w (Item.all L) w') (n : Nat) (hn : L.length = n) (is : List Nat) (h : is.Perm (List.range n)) : Turn a w (Item.all (is.map fun i => L.getD i Item.none)) w' := by
  subst hn
  refine t.permR ?_
  have := (h.map fun i => L.getD i Item.none).symm
  rwa [show (List.range L.length).map (fun i => L.getD i Item.none) = L from List.ext_getElem (by simp) (fun i h1 h2 => by simp at h1 h2 ⊢; rw [List.getElem?_eq_getElem h2]; rfl)] at this
end Go.Proofs.YtmnpchncmbnddaaGreat
/- Laws of layer 19: versions as pieces of memory; Do where pieces lie beside it; awake. -/
namespace Go.Proofs.YtmnpchncmbnddaaGreat
open Go.RowKit

/-- A version, and where its value lies. -/
structure Hv where
  x : Vn
  A : Option Addr
  c : Nat
def hvCells (ts : List Hv) : List Value := ts.flatMap fun t => (t.x.cells t.A t.c).toList
def hvRows (ts : List Hv) : List Item := ts.map fun t => Item.row (.slice t.A t.x.value.length t.c) t.x.value
section
variable {w : World} {x : Item} {rest : List Item} {A : Option Addr} {c n : Nat} {ts : List Hv}
theorem slv_of_row {B : Nat} (h : (Item.rowT 51 4 (.slice A n c) n (hvCells ts)).P w) (hn : n = ts.length) (hB : ∀ k, (Value.slice A n c).ownBlock = some k → k < B) (hv : ∀ t ∈ ts, t.x.ints ∧ BReads w B t.A t.x.value ∧ t.x.value.length ≤ t.c) : kVn.Sl w B A (ts.map Hv.x) := by
  intro hl
  rw [List.length_map] at hl
  have h' : w.ownsRow 0 51 4 (.slice A n c) n (hvCells ts) := h
  rcases h'.2 with ⟨h2, h3⟩ | ⟨g, cap, cur, hv1, _, hh, h4, h5, h6, h7⟩
  · omega
  injection hv1 with hv1
  subst hv1
  refine ⟨g, 0, rfl, hB g rfl, fun j x hx => ?_⟩
  rw [List.getElem?_map] at hx
  obtain ⟨t, ht, rfl⟩ := Option.map_eq_some_iff.1 hx
  have hm := List.mem_of_getElem? ht
  obtain ⟨⟨s1, s2⟩, hr, hcap⟩ := hv t hm
  refine ⟨(t.x.cells t.A t.c).toList, ?_, fun i u hu => ?_⟩
  · have wf : ∀ z : Int, -9223372036854775808 ≤ z → z ≤ 9223372036854775807 → (Lit.int .i64 z).wf = true := fun z h1 h2 => by simp [Lit.wf, IntKind.min, IntKind.max, IntKind.signed, IntKind.bits]; omega
    exact ⟨[_], _, rfl, rfl, [_], _, rfl, ⟨rfl, wf _ s1 s2⟩, [_], [_], rfl, ⟨t.A, t.c, rfl, hcap, hr⟩, rfl⟩
  · have hj : j < ts.length := (List.getElem?_eq_some_iff.1 ht).1
    have hi : i < 4 := (List.getElem?_eq_some_iff.1 hu).1
    have e1 : (hvCells ts)[j * 4 + i]? = some u := by
      unfold hvCells
      rw [List.flatMap_def]
      have := flat_get (L := ts.map fun t => (t.x.cells t.A t.c).toList) (n := 4) (i := j) (j := i) (x := (t.x.cells t.A t.c).toList) (fun x hx => by obtain ⟨t', _, rfl⟩ := List.mem_map.1 hx; rfl) (by rw [List.getElem?_map, ht]; rfl) hi
      rw [this]; exact hu
    have hlt : j * 4 + i < n * 4 := by omega
    rw [← h7, List.getElem?_take_of_lt hlt] at e1
    show w.cell? ⟨g, 0 + j * 4 + i, none⟩ = some u
    rw [Nat.zero_add]
    unfold World.cell?
    simp only [hh]
    simpa using e1
end
/-- The bytes of a constant, in a block of their own. -/
def Item.lit (g : Nat) (l : List UInt8) : Item where
  own := fun k => k = g
  P := fun w => ∃ fr, w.heap[g]? = some (.cells (bys l).toArray 5 fr)
  keep := fun ⟨fr, h⟩ hk => ⟨fr, (hk g rfl).trans h⟩
  lt := fun {w k} ⟨fr, h⟩ e => by
    subst e
    rcases Nat.lt_or_ge k w.heap.size with hlt | hge
    · exact hlt
    · rw [Array.getElem?_eq_none hge] at h; cases h
section
variable {a : Item} {w0 w : World} {s : St} {gc : Nat} {now wd : Int} {gl g gp : Nat} {p : Pt} {N : Nat} {rest : List Item} {A : Option Addr} {c : Nat} {l : List Vn} {since : Int}
end
/-! What the calls of awake answer. -/
def awA : Vn := ⟨⟨#[97]⟩, 0, [49], false⟩
def awB : Vn := ⟨⟨#[98]⟩, 0, [50], false⟩
instance : Decidable awA.ints := by unfold Vn.ints; infer_instance
instance : Decidable awB.ints := by unfold Vn.ints; infer_instance
section
variable {w0 w : World} {s : St} {now since : Int} {gs gc g gp gl gw gd ba b1 b2 N : Nat} {p : Pt}
end
end Go.Proofs.YtmnpchncmbnddaaGreat
/- Stores: what Apply and Load do, by the plain store. -/
namespace Go.Proofs.YtmnpchncmbnddaaGreat
open Go.RowKit

/-- What refuses a version, by the plain store; 0: nothing. -/
def errP (S : PS) (v : Vn) : Int := if v.bad ≠ 0 then v.bad else if 0 < (ofP S v.k).length ∧ v.stamp ≤ lastP (ofP S v.k) then 130 else 0
theorem errOf_view {s : St} {v : Vn} : s.errOf v = errP s.view v := by
  unfold St.errOf errP
  rw [lastL_vs, show v.key.data.toList = v.k from rfl, ofO_vs, ← ofO_vs, List.length_map]
/-- A version applied, where nothing refuses it. -/
def tryP (S : PS) (v : Vn) : PS := if errP S v = 0 then applyP S v else S
theorem okMore {s : St} {N M : Nat} (h : s.ok N) (hM : N ≤ M) : s.ok M := ⟨h.apart, Nat.le_trans h.many hM, fun p hp => by
  obtain ⟨h1, h2, h3, h4⟩ := h.each p hp
  exact ⟨h1, h2, Nat.le_trans h3 hM, h4⟩, h.live⟩
theorem apply_turn {a : Item} {w0 w : World} {L : List Item} {i : Nat} {s : St} {N : Nat} (T : Turn a w0 (Item.all L) w) (hi : L[i]? = some s.item) (hok : s.ok N) (hN : N ≤ 1099511627775) {A : Option Addr} {c : Nat} (v : Vn) (hr : BReads w w.heap.size A v.value) (hks : v.key.size ≤ maxLen) (hvs : v.value.length ≤ 140737488355328) :
    Calls Tryz.prog 64 #[.pointer (some ⟨s.gs, 0, none⟩), .agg (v.cells A c)] w fun e w' => e = .returned (.int .i64 (errP s.view v)) ∧ ∃ s' : St, s'.gs = s.gs ∧ s'.gm = s.gm ∧ s'.ok (N + 1) ∧ s'.view = tryP s.view v ∧ Turn a w0 (Item.all (L.set i s'.item)) w' := by
  refine (apply_any (T.get hi) hok hN (c := c) v hr hks hvs).mono ?_
  rintro e w' ⟨rfl, h⟩
  rw [errOf_view] at h ⊢
  refine ⟨rfl, ?_⟩
  rcases h with ⟨h, hb⟩ | ⟨h, ch, l, lv, h1, h2, h3, t⟩
  · refine ⟨s, rfl, rfl, okMore hok (by omega), by unfold tryP; rw [if_neg h], ?_⟩
    rw [show L.set i s.item = L from by
      obtain ⟨hl, he⟩ := List.getElem?_eq_some_iff.1 hi
      rw [← he, List.set_getElem_self]]
    exact T.go hb
  · exact ⟨⟨s.gs, s.gm, lv, putA v.key.data.toList ch s.cs⟩, rfl, rfl, h3, by rw [show v.key.data.toList = v.k from rfl, view_put (v := v) h1 h2]; unfold tryP; rw [if_pos h], T.step hi t⟩
/-- Versions applied until one is refused. -/
def loadF : PS → List Vn → PS × Int
  | S, [] => (S, 0)
  | S, v :: r => if errP S v = 0 then loadF (applyP S v) r else (S, errP S v)
theorem loadF_yes {S : PS} {l : List Vn} {K : Nat} {x : Vn} (h : K < l.length) (hx : x = l[K]) (he : errP S x = 0) : loadF S (l.drop K) = loadF (tryP S x) (l.drop (K + 1)) := by
  subst hx
  rw [List.drop_eq_getElem_cons h]
  show (if _ then _ else _) = _
  unfold tryP
  rw [if_pos he, if_pos he]
theorem loadF_no {S : PS} {l : List Vn} {K : Nat} {x : Vn} (h : K < l.length) (hx : x = l[K]) (he : errP S x ≠ 0) : loadF S (l.drop K) = (S, errP S x) := by
  subst hx
  rw [List.drop_eq_getElem_cons h]
  show (if _ then _ else _) = _
  rw [if_neg he]
def LoadPost (l : List Vn) (w : World) (e : Ending) (w' : World) : Prop :=
  (loadF [] l).2 ≠ 0 ∧ e = .returned (.tuple #[.pointer none, .int .i64 (loadF [] l).2]) ∧ Below w.heap.size w w' ∨
  (loadF [] l).2 = 0 ∧ ∃ s : St, e = .returned (.tuple #[.pointer (some ⟨s.gs, 0, none⟩), .int .i64 0]) ∧ s.ok l.length ∧ s.view = (loadF [] l).1 ∧ Turn (Item.all []) w (Item.all [s.item]) w'
set_option maxRecDepth 100000 in
set_option maxHeartbeats 3200000 in
theorem load_any {w : World} {B : Nat} {A : Option Addr} {c : Nat} {l : List Vn} (hS : kVn.Sl w B A l) (hB : B ≤ w.heap.size) (hl : l.length ≤ 16777216) (hks : ∀ v ∈ l, v.key.size ≤ maxLen ∧ v.value.length ≤ 140737488355328) :
    Calls Tryz.prog 163 #[.slice A l.length c] w (LoadPost l w) := by
  have HS := Lib.hid hS
  have HKS := Lib.hid hks
  obtain ⟨N, hN⟩ : ∃ N, N = l.length := ⟨_, rfl⟩
  have HN := Lib.hid hN
  rw [← hN] at hl ⊢
  clear hS hks hN
  go_enter Tryz.func163, Tryz.ntmps163
  go_wp2_with fail
  refine (snew_any (w := w)).mono ?_
  rintro e w1 ⟨gs, gm, rfl, hok, t1⟩
  have T1 := Lib.hid (show ∃ s : St, s.gs = gs ∧ s.ok 0 ∧ loadF [] l = loadF s.view (l.drop 0) ∧ Turn (Item.all []) w (Item.all [s.item]) w1 from ⟨_, rfl, hok, rfl, t1.one⟩)
  clear hok t1
  go_wp2
  go_loopw [11] (fun t wr => ∃ K : Nat, t = .int .i64 K ∧ K ≤ N ∧ Hid (∃ s : St, s.gs = gs ∧ s.ok K ∧ loadF [] l = loadF s.view (l.drop K) ∧ Turn (Item.all []) w (Item.all [s.item]) wr)) (fun t _ => N - (intOf t).toNat)
  case atStart => exact ⟨0, rfl, Nat.zero_le _, T1⟩
  case round =>
    clear T1
    obtain ⟨K, rfl, hK, hH⟩ := hrel
    by_cases hlt : (K : Int) < (N : Int)
    · have hKi : K + 1 ≤ N := by omega
      have hKl : K < l.length := by have := HN.out; omega
      obtain ⟨s, hg, hok, hload, hT⟩ := hH.out
      have hbw := hT.free
      obtain ⟨bb, off, Av, cv, hA, hbb, hints, s0, s1, s2, s3, hval, hvc⟩ := vn_at (HS.out.keep (fun p hp => hbw.cell (Nat.lt_of_lt_of_le hp hB))) hKl
      subst hA
      obtain ⟨x, hx⟩ : ∃ x, x = l[K] := ⟨_, rfl⟩
      have hxm : x ∈ l := by rw [hx]; exact List.getElem_mem _
      have hxb := HKS.out x hxm
      rw [← hx] at s0 s1 s2 s3 hval hvc
      have HY := Lib.hid (loadF_yes (S := s.view) hKl hx)
      have HN0 := Lib.hid (loadF_no (S := s.view) hKl hx)
      have HL := Lib.hid hload
      have HT := Lib.hid hT
      obtain ⟨key, st, v, dd⟩ := x
      simp only at s0 s1 s2 s3 hval hvc hxb
      have hb1 := (Below.refl wr.heap.size wr).alloc (Nat.le_refl _) (.cells #[.string key, .int .i64 st, .slice Av v.length cv, .bool dd] 51)
      have HAP := Lib.hid (apply_turn (i := 0) (HT.out.go hb1) rfl hok (by omega) (A := Av) (c := cv) ⟨key, st, v, dd⟩ (((hval.more (Nat.le_trans hB hbw.size)).below hb1).more hb1.size) hxb.1 hxb.2)
      rw [hg] at HAP
      clear hx hxm hxb hval hvc hints hb1 hT hH hload hok hbw hbb hg hKl
      go_wp2_with fail
      refine HAP.out.mono ?_
      rintro e w2 ⟨rfl, s', hg', _, hok', hv', t⟩
      obtain ⟨R, hR⟩ : ∃ R, R = errP s.view ⟨key, st, v, dd⟩ := ⟨_, rfl⟩
      have HR := Lib.hid hR
      have HH := Lib.hid (And.intro hg' (And.intro hok' hv'))
      have T2 := Lib.hid t
      rw [← hR]
      clear hR hg' hok' hv' t HAP
      by_cases hr0 : R = 0
      · have HE := Lib.hid (HR.out.symm.trans hr0)
        subst hr0
        go_wp2
        exact ⟨⟨K + 1, by go_num, hKi, Lib.hid ⟨s', HH.out.1, HH.out.2.1, by rw [HL.out, HY.out HE.out, HH.out.2.2], T2.out⟩⟩, by simp [intOf]; omega⟩
      · have d0 : decide (R = 0) = false := decide_eq_false hr0
        have HF := Lib.hid (show LoadPost l w (.returned (.tuple #[.pointer none, .int .i64 R])) w2 from by
          have e1 : loadF [] l = (s.view, R) := by rw [HL.out, HN0.out (by rw [← HR.out]; exact hr0), ← HR.out]
          exact .inl ⟨by rw [e1]; exact hr0, by rw [e1], T2.out.free⟩)
        go_wp2
        go_ret2
        exact HF.out
    · obtain rfl : K = N := by omega
      obtain ⟨s, hg, hok, hload, hT⟩ := hH.out
      rw [List.drop_of_length_le (by rw [← HN.out]; omega)] at hload
      have HR := Lib.hid (show LoadPost l w (.returned (.tuple #[.pointer (some ⟨gs, 0, none⟩), .int .i64 0])) wr from .inr ⟨by rw [hload]; rfl, s, by rw [hg], by rw [← HN.out]; exact hok, by rw [hload]; rfl, hT⟩)
      clear hg hok hload hT hH
      go_wp2
      go_ret2
      exact HR.out
end Go.Proofs.YtmnpchncmbnddaaGreat
/- OfVersion, OfWrite, Version of the reference, by contract. -/
namespace Go.Proofs.YtmnpchncmbnddaaGreat
open Go.RowKit

end Go.Proofs.YtmnpchncmbnddaaGreat
/- A region that draws its order: reads in whatever order, and a chain of operations that make or write memory. -/
namespace Go.Proofs.YtmnpchncmbnddaaGreat
open Go.RowKit

/-- What holds between two operations: the reads that are done have their values; C tells how far the chain is. -/
structure ChI (sl : List Nat) (pv : Nat → Option (Nat × Value)) (C : (Nat → Bool) → Act → World → Prop) (a0 : Act) (L : Nat → Bool) (a : Act) (w : World) : Prop where
  fr : Fr sl a0 a
  pu : ∀ i d v, pv i = some (d, v) → L i = true → a.tmps.getD d undef = v
  ch : C L a w
/-- Which slots the reads write. -/
structure ChOk (sl : List Nat) (pv : Nat → Option (Nat × Value)) (sz : Nat) : Prop where
  s : ∀ i d v, pv i = some (d, v) → d ∈ sl ∧ d < sz
  u : ∀ i j d v v', pv i = some (d, v) → pv j = some (d, v') → i = j
theorem region_chain {F : Fence} {n : Nat} {P : Program} {id : Nat} {ops : Array Oper} {Q : Exit → Act → World → Prop} {a0 : Act} {w : World} {sl : List Nat} {pv : Nat → Option (Nat × Value)} {C : (Nat → Bool) → Act → World → Prop}
    (hm : P.follows .mixedOrders = true) (hl : lexB ops = true) (hg : ∀ (i : Nat) (o : Oper), ops[i]? = some o → o.guard = none) (hok : ChOk sl pv a0.tmps.size) (h0 : C (fun _ => false) a0 w.drew)
    (hC : ∀ L a w i d v, pv i = some (d, v) → a.tmps.size = a0.tmps.size → C L a w → C (upd L i) (a.put (some d) v) w)
    (hpure : ∀ (L : Nat → Bool) (a : Act) (w : World) (i : Nat) (o : Oper) (d : Nat) (v : Value), ops[i]? = some o → pv i = some (d, v) → L i = false → (∀ e ∈ o.after, Region.binds .any e = true → L e.on = true) → ChI sl pv C a0 L a w → ∀ (K : Act → World → Prop), K (a.put (some d) v) w → o.wpIn F n P a w K Q)
    (hchain : ∀ (L : Nat → Bool) (a : Act) (w : World) (i : Nat) (o : Oper), ops[i]? = some o → pv i = none → L i = false → (∀ e ∈ o.after, Region.binds .any e = true → L e.on = true) → ChI sl pv C a0 L a w → ∀ (K : Act → World → Prop),
      (∀ w', C (upd L i) a w' → K a w') → (∀ d u w', d ∈ sl → (∀ j e v, pv j = some (e, v) → e ≠ d) → C (upd L i) (a.put (some d) u) w' → K (a.put (some d) u) w') → o.wpIn F n P a w K Q)
    (he : ∀ L a w, (∀ k, k < ops.size → L k = true) → ChI sl pv C a0 L a w → Q .normal a w) : (Code.region id ops true).wpIn F n P Q a0 w := by
  refine regionIn_inv (ChI sl pv C a0) hm hl ⟨Fr.refl _ _, fun i d v _ h => (by cases h), h0⟩ ?_ he
  intro L a w i o ho hL ha hI
  unfold wpOpIn
  rw [ho]
  have hgo := hg i o ho
  have hwt : Region.wanted o (yielded ops a.tmps) = true := by unfold Region.wanted; rw [hgo]
  simp only
  rw [if_pos hwt]
  have hupd : ∀ j, upd L i j = true → j = i ∨ L j = true := fun j h => by
    unfold upd at h
    split at h
    · rename_i e; exact .inl e
    · exact .inr h
  cases hp : pv i with
  | some x =>
    obtain ⟨d, v⟩ := x
    have hd := hok.s i d v hp
    refine hpure L a w i o d v ho hp hL ha hI _ ⟨hI.fr.put hd.1 _, fun j e u hj hLj => ?_, hC L a w i d v hp hI.fr.n hI.ch⟩
    by_cases hed : e = d
    · subst hed
      have hij := hok.u i j _ _ _ hp hj
      subst hij
      rw [hp] at hj
      cases hj
      exact slot_eq (by rw [hI.fr.n]; exact hd.2)
    · rw [slot_ne (by rw [hI.fr.n]; exact hd.2) hed]
      rcases hupd j hLj with rfl | h
      · rw [hp] at hj; cases hj; exact absurd rfl hed
      · exact hI.pu j e u hj h
  | none =>
    refine hchain L a w i o ho hp hL ha hI _ (fun w' hc => ⟨hI.fr, fun j e u hj hLj => ?_, hc⟩) (fun d u w' hd hne hc => ⟨hI.fr.put hd _, fun j e x hj hLj => ?_, hc⟩)
    · rcases hupd j hLj with rfl | h
      · rw [hp] at hj; cases hj
      · exact hI.pu j e u hj h
    · have hed := hne j e x hj
      have : (a.put (some d) u).tmps.getD e undef = a.tmps.getD e undef := by
        by_cases hlt : d < a.tmps.size
        · exact slot_ne hlt hed
        · unfold Act.put; simp [Array.setIfInBounds, hlt]
      rw [this]
      rcases hupd j hLj with rfl | h
      · rw [hp] at hj; cases hj
      · exact hI.pu j e x hj h
end Go.Proofs.YtmnpchncmbnddaaGreat
/- A range over a function that makes memory of its own ahead of its rounds: the blocks from the call up to n₁ are the callee's, and a round leaves them alone. -/
namespace Go.Proofs.YtmnpchncmbnddaaGreat
open Go.RowKit Go.Shelf

theorem heap_alloc_old {w : World} {o : Obj} {k : Nat} (h : k < w.heap.size) : (w.alloc o).heap[k]? = w.heap[k]? := Below.heap_alloc w o k h
section
variable {α : Type} {F : Fence} {n : Nat} {P : Program}
/-- The iterator's contract, where what it made ahead of its first round lies from W's end up to n₁. -/
def SeqN (F : Fence) (n : Nat) (P : Program) (gf : Nat) (lb : Array Value) (encs : α → Array Value) (Rd : List α → α → World → Prop) (S Sp : List α → Prop) (w : World) : Prop :=
  ∀ (l : Nat) (J Jx : Nat → List α → World → Prop) (W : World), Below w.heap.size w W → (∀ n₁, Go.OwnFrom W.heap.size (J n₁)) → (∀ n₁, Go.OwnFrom W.heap.size (Jx n₁)) →
    (∀ n₁ pre x V, W.heap.size ≤ n₁ → n₁ ≤ V.heap.size → J n₁ pre V → Rd pre x V → YieldAt F (n - 1) P l (encs x) V fun e V' => (e = .returned (.bool true) ∧ J n₁ (pre ++ [x]) V' ∧ KeepsFrom W.heap.size V V' ∧ Mid W.heap.size n₁ V V') ∨ (e = .returned (.bool false) ∧ Jx n₁ (pre ++ [x]) V' ∧ KeepsFrom W.heap.size V V')) →
    (∀ n₁ V, W.heap.size ≤ n₁ → n₁ ≤ V.heap.size → Below W.heap.size W V → J n₁ [] V) → CallsIn F n P gf (#[.func (.yield l) #[] #[]] ++ lb) W fun e V => (∃ v, e = .returned v) ∧ ∃ n₁, ((∃ xs, S xs ∧ J n₁ xs V) ∨ (∃ pre, Sp pre ∧ Jx n₁ pre V))

variable {g : Operand} {ps : Array Tmp} {assign body : Code} {Q : Exit → Act → World → Prop} {a : Act} {w : World}
theorem range_n (hro : F.round = none) (h1 : 1 ≤ n) {gf : Nat} {lb : Array Value} (hg : a.eval g = .func (.func gf) #[] lb) (hF : F.fn gf) (eg : ∀ args w, (callFunc gf args).run P w = .ok (.enter gf args) w)
    {encs : α → Array Value} {Rd : List α → α → World → Prop} {S Sp : List α → Prop} {w0 : World} (hseq : SeqN F (n - 1) P gf lb encs Rd S Sp w0)
    (hRd : ∀ pre, Go.OwnFrom w.heap.size (Rd pre)) (hb0 : Below w0.heap.size w0 w) (hps : ∀ x, (encs x).size = ps.size)
    (I : Nat → List α → World → Prop) (Ix : Nat → Code → List α → World → Prop) (hI : ∀ n₁, Go.OwnFrom w.heap.size (I n₁)) (hIx : ∀ n₁ c, Go.OwnFrom w.heap.size (Ix n₁ c)) (h0 : ∀ n₁ V, w.heap.size + 2 ≤ n₁ → n₁ ≤ V.heap.size → Below w.heap.size w V → I n₁ [] V) (a₁ : α → Nat → Act) (ob : α → Obj)
    (hassign : ∀ (l : Nat) (x : α) (W : World) (K : Act → World → Prop), K (a₁ x W.heap.size) (W.alloc (ob x)) →
      assign.wpIn (F.inRound l) (n - 1 - 1) P (Exit.then K (fun _ _ _ => False)) { tmps := (ps.zip (encs x)).foldl (fun t (p, v) => t.setIfInBounds p v) a.tmps, defers := [] } W)
    (hbody : ∀ (n₁ l k : Nat) (pre : List α) (x : α) (W : World), w.heap.size + 2 ≤ n₁ → n₁ ≤ k → W.heap[k]? = some (ob x) → W.heap.size = k + 1 → I n₁ pre W → Rd pre x W → body.wpIn (F.inRound l) (n - 1 - 1) P (ownPostG w.heap.size (Mid (w.heap.size + 2) n₁) (I n₁) (Ix n₁) (pre ++ [x]) W) (a₁ x k) W)
    (hdone : ∀ (n₁ D : Nat) (xs : List α) (W : World), w.heap.size ≤ D → S xs → I n₁ xs W → W.heap[D]? = some (.deferred (some [])) → Q .normal { a with defers := { target := .collected D, args := #[] } :: a.defers } W)
    (hstop : ∀ (n₁ D : Nat) (c : Code) (pre : List α) (W : World), w.heap.size ≤ D → Sp pre → Ix n₁ c pre W → W.heap[D]? = some (.deferred (some [])) → c.wpIn F n P Q { a with defers := { target := .collected D, args := #[] } :: a.defers } W) :
    (Code.rangeFunc g ps assign body).wpIn F n P Q a w := by
  refine wpIn_rangeFunc fun fn hfn => ?_
  rw [hro]
  let rec_ : LoopState → Option Code → Loop := fun st pe => { state := st, pending := pe, fn, tmps := a.tmps, params := ps, assign, body, defers := w.heap.size }
  let W1 := (w.alloc (.deferred (some []))).alloc (.loop (rec_ .ready none))
  have hsz : W1.heap.size = w.heap.size + 2 := by simp [W1]
  have hL1 : W1.heap[w.heap.size + 1]? = some (.loop (rec_ .ready none)) := by
    have := World.alloc_heap_new (w.alloc (.deferred (some []))) (.loop (rec_ .ready none))
    rwa [World.size_alloc] at this
  have hK1 : W1.heap[w.heap.size]? = some (.deferred (some [])) := (Below.heap_alloc _ _ _ (by simp)).trans (World.alloc_heap_new w _)
  have hb1 : Below w0.heap.size w0 W1 := hb0.trans ((((Below.refl _ w).alloc (Nat.le_refl _) _).alloc (by simp) _).mono hb0.size)
  -- what the loop itself keeps: its record, its mark
  let BK : LoopState → Option Code → World → Prop := fun st pe W => W.heap[w.heap.size + 1]? = some (.loop (rec_ st pe)) ∧ W.heap[w.heap.size]? = some (.deferred (some []))
  have hBK : ∀ {st pe A B row}, BK st pe A → A.grownBy B row → (∀ r, row = some r → W1.heap.size ≤ r ∧ ∃ o : Obj, A.heap[r]? = some o ∧ o.isCells = false) → BK st pe B := by
    intro st pe A B row h hg' hr
    have hne : ∀ k, k < W1.heap.size → some k ≠ row := fun k hk e => by have := (hr k e.symm).1; omega
    exact ⟨(hg'.block _ (Array.getElem?_eq_some_iff.1 h.1).1 (hne _ (by omega))).trans h.1, (hg'.block _ (Array.getElem?_eq_some_iff.1 h.2).1 (hne _ (by omega))).trans h.2⟩
  have hnw : ∀ {A : World} {row : Option Nat}, (∀ r, row = some r → W1.heap.size ≤ r ∧ ∃ o : Obj, A.heap[r]? = some o ∧ o.isCells = false) → (∀ r, row = some r → w.heap.size ≤ r ∧ ∃ o : Obj, A.heap[r]? = some o ∧ o.isCells = false) :=
    fun hr r e => by obtain ⟨hB, o, ho, hw⟩ := hr r e; exact ⟨by omega, o, ho, hw⟩
  have hBB : ∀ {V : World}, Below W1.heap.size W1 V → Below w.heap.size w V := fun {V} h => (((Below.refl _ w).alloc (Nat.le_refl _) _).alloc (by simp) _).trans (h.mono (by simp only [hsz]; simp [W1]))
  refine ⟨w.heap.size + 1, [{ target := .collected w.heap.size, args := #[] }], W1, { target := .fn (.func gf) lb, args := #[.func (.yield (w.heap.size + 1)) #[] #[]] }, W1, gf,
    #[.func (.yield (w.heap.size + 1)) #[] #[]] ++ lb, W1, run_enterLoop_outer _ _ _ _ _, ?_, ?_, ?_, fun _ => h1, ?_⟩
  · simp only [resolve, hg]
    simp [go_sem]
  · intro f' hf'
    simp [Target.leads] at hf'
    subst hf'; exact hF
  · simp [invoke, go_sem, eg]
  refine (hseq (w.heap.size + 1) (fun n₁ pre W => I n₁ pre W ∧ BK .ready none W) (fun n₁ pre W => ∃ c, Ix n₁ c pre W ∧ BK .done (some c) W) W1 hb1
    (fun n₁ s A B row hs hg' hr => ⟨hI n₁ s A B row hs.1 hg' (hnw hr), hBK hs.2 hg' hr⟩)
    (fun n₁ s A B row hs hg' hr => by obtain ⟨c, hc, hk⟩ := hs; exact ⟨c, hIx n₁ c s A B row hc hg' (hnw hr), hBK hk hg' hr⟩) ?round (fun n₁ V h1 h2 h3 => ⟨h0 n₁ V (by omega) h2 (hBB h3), (h3.block _ (by omega)).trans hL1, (h3.block _ (by omega)).trans hK1⟩)).mono ?after
  case after =>
    rintro e V ⟨⟨v, rfl⟩, n₁, (⟨xs, hS, hi, hl, hk⟩ | ⟨pre, hSp, c, hi, hl, hk⟩)⟩
    · exact ⟨none, _, run_endLoop (P := P) hl (by simp [rec_]), hdone n₁ _ xs _ (Nat.le_refl _) hS ((hI n₁).putObj _ hi (by omega) hl rfl) ((World.putObj_heap_other (by omega)).trans hk)⟩
    · exact ⟨some c, _, run_endLoop (P := P) hl (by simp [rec_]), hstop n₁ _ c pre _ (Nat.le_refl _) hSp ((hIx n₁ c).putObj _ hi (by omega) hl rfl) ((World.putObj_heap_other (by omega)).trans hk)⟩
  case round =>
    rintro n₁ pre x V hn1 hn2 ⟨hi, hl, hk⟩ hrd
    have hlt : w.heap.size + 1 < V.heap.size := (Array.getElem?_eq_some_iff.1 hl).1
    refine ⟨fn, _, assign, body, run_yield (P := P) (args := encs x) hl (hps x), roundIn_of_wpIn hfn (hassign _ x V _ ⟨_, run_beginRound ((heap_alloc_old (by omega)).trans hl) rfl, ?_⟩)⟩
    let Va := V.alloc (ob x)
    have hla : Va.heap[w.heap.size + 1]? = some (.loop (rec_ .ready none)) := (heap_alloc_old (by omega)).trans hl
    let V2 := Va.putObj (w.heap.size + 1) (.loop { rec_ .ready none with state := .busy })
    have hsza : Va.heap.size = V.heap.size + 1 := by simp [Va]
    have hl2 : V2.heap[w.heap.size + 1]? = some (.loop { rec_ .ready none with state := .busy }) := World.putObj_heap_same (by omega)
    have hk2 : V2.heap[w.heap.size]? = some (.deferred (some [])) := (World.putObj_heap_other (by omega)).trans ((heap_alloc_old (by omega)).trans hk)
    have hob : V2.heap[V.heap.size]? = some (ob x) := (World.putObj_heap_other (by omega)).trans (World.alloc_heap_new V _)
    have hsz2 : V2.heap.size = V.heap.size + 1 := by simp [V2, World.putObj, hsza]
    have hal : KeepsFrom W1.heap.size V Va ∧ Mid W1.heap.size n₁ V Va := ⟨⟨by omega, fun k o' _ ho _ => (heap_alloc_old (Array.getElem?_eq_some_iff.1 ho).1).trans ho⟩, by omega, fun k _ h2 => heap_alloc_old (by omega)⟩
    have hput : ∀ (A : World) (o : Obj), KeepsFrom W1.heap.size A (A.putObj (w.heap.size + 1) o) ∧ Mid W1.heap.size n₁ A (A.putObj (w.heap.size + 1) o) := fun A o =>
      ⟨⟨by simp [World.putObj], fun k o' hB ho _ => (World.putObj_heap_other (by omega)).trans ho⟩, by simp [World.putObj], fun k h1 _ => World.putObj_heap_other (by omega)⟩
    have ends : ∀ (jump : Option Code) (V3 : World), KeepsFrom w.heap.size V2 V3 →
        (Instr.endRound (w.heap.size + 1) jump).run P V3 = .ok (.bool jump.isNone) (V3.putObj (w.heap.size + 1) (.loop (rec_ (if jump.isNone then .ready else .done) jump))) ∧
        V3.heap[w.heap.size + 1]? = some (.loop { rec_ .ready none with state := .busy }) ∧ BK (if jump.isNone then .ready else .done) jump (V3.putObj (w.heap.size + 1) (.loop (rec_ (if jump.isNone then .ready else .done) jump))) := by
      intro jump V3 hk3
      have hl3 := hk3.same _ _ (by omega) hl2 rfl
      exact ⟨run_endRound (P := P) jump hl3, hl3, World.putObj_heap_same (Array.getElem?_eq_some_iff.1 hl3).1, (World.putObj_heap_other (by omega)).trans (hk3.same _ _ (Nat.le_refl _) hk2 rfl)⟩
    have hkf : ∀ V3 (o : Obj), KeepsFrom w.heap.size V2 V3 → KeepsFrom W1.heap.size V (V3.putObj (w.heap.size + 1) o) := fun V3 o h =>
      ((hal.1.trans (hput Va _).1).trans ⟨h.size, fun k o' hB ho hc => h.same k o' (by omega) ho hc⟩).trans (hput V3 o).1
    refine wpIn_mono (hbody n₁ _ V.heap.size pre x V2 (by omega) (by omega) hob hsz2 ((hI n₁).putObj _ ((hI n₁).alloc _ hi) (by omega) hla rfl) ((hRd pre).putObj _ ((hRd pre).alloc _ hrd) (by omega) hla rfl)) ?_
    have left : ∀ (c : Code) (V3 : World), KeepsFrom w.heap.size V2 V3 → Ix n₁ c (pre ++ [x]) V3 →
        ∃ v V4, (Instr.endRound (w.heap.size + 1) (some c)).run P V3 = .ok v V4 ∧ ((Ending.returned v = .returned (.bool true) ∧ (I n₁ (pre ++ [x]) V4 ∧ BK .ready none V4) ∧ KeepsFrom W1.heap.size V V4 ∧ Mid W1.heap.size n₁ V V4) ∨ (Ending.returned v = .returned (.bool false) ∧ (∃ c, Ix n₁ c (pre ++ [x]) V4 ∧ BK .done (some c) V4) ∧ KeepsFrom W1.heap.size V V4)) := by
      intro c V3 hk3 hi3
      obtain ⟨hr, hl3, hb⟩ := ends (some c) V3 hk3
      exact ⟨_, _, hr, .inr ⟨rfl, ⟨c, (hIx n₁ c).putObj _ hi3 (by omega) hl3 rfl, hb⟩, hkf V3 _ hk3⟩⟩
    rintro e a3 V3 hp
    cases e with
    | normal =>
      obtain ⟨hr, hl3, hb⟩ := ends none V3 hp.1
      have hm : Mid W1.heap.size n₁ V2 V3 := by rw [hsz]; exact hp.2.1
      exact ⟨_, _, hr, .inl ⟨rfl, ⟨(hI n₁).putObj _ hp.2.2 (by omega) hl3 rfl, hb⟩, hkf V3 _ hp.1, ((hal.2.trans (hput Va _).2).trans hm).trans (hput V3 _).2⟩⟩
    | ret => exact left .ret V3 hp.1 hp.2
    | exit id => exact left (.exit id) V3 hp.1 hp.2
    | goto t => exact left (.goto t) V3 hp.1 hp.2
    | panic ch => exact hp.elim
    | outgrown => exact hp.elim
theorem range_rb (hro : F.round = none) (h1 : 1 ≤ n) {gf : Nat} {lb : Array Value} (hg : a.eval g = .func (.func gf) #[] lb) (hF : F.fn gf) (eg : ∀ args w, (callFunc gf args).run P w = .ok (.enter gf args) w)
    {encs : α → Array Value} {Kp : World → World → Prop} {Rd : List α → α → World → Prop} {S Sp : List α → Prop} {w0 : World} (hseq : SeqRd F (n - 1) P gf lb encs Kp Rd S Sp w0)
    (hKt : ∀ {A B C : World}, Kp A B → Kp B C → Kp A C) (hKb : ∀ (W : World) (l : Nat) (o o' : Obj), w.heap.size ≤ l → W.heap[l]? = some o → o.isCells = false → o.isWalk = false → Kp W (W.putObj l o')) (hKa : ∀ (W : World) (o : Obj), w.heap.size ≤ W.heap.size → Kp W (W.alloc o))
    (hRd : ∀ pre, Go.OwnFrom w.heap.size (Rd pre)) (hb0 : Below w0.heap.size w0 w) (hps : ∀ x, (encs x).size = ps.size)
    (I : List α → World → Prop) (Ix : Code → List α → World → Prop) (hI : Go.OwnFrom w.heap.size I) (hIx : ∀ c, Go.OwnFrom w.heap.size (Ix c)) (h0 : I [] w) (a₁ : α → Nat → Act) (ob : α → Obj)
    (hassign : ∀ (l : Nat) (x : α) (W : World) (K : Act → World → Prop), K (a₁ x W.heap.size) (W.alloc (ob x)) →
      assign.wpIn (F.inRound l) (n - 1 - 1) P (Exit.then K (fun _ _ _ => False)) { tmps := (ps.zip (encs x)).foldl (fun t (p, v) => t.setIfInBounds p v) a.tmps, defers := [] } W)
    (hbody : ∀ (l k : Nat) (pre : List α) (x : α) (W : World), w.heap.size + 2 ≤ k → W.heap[k]? = some (ob x) → W.heap.size = k + 1 → (∃ (V : World) (j : Nat) (o o' : Obj), I pre V ∧ k = V.heap.size ∧ w.heap.size ≤ j ∧ (V.alloc (ob x)).heap[j]? = some o ∧ o.isCells = false ∧ W = (V.alloc (ob x)).putObj j o') → I pre W → Rd pre x W → body.wpIn (F.inRound l) (n - 1 - 1) P (ownPostG w.heap.size Kp I Ix (pre ++ [x]) W) (a₁ x k) W)
    (hdone : ∀ (D : Nat) (xs : List α) (W : World), w.heap.size ≤ D → S xs → I xs W → W.heap[D]? = some (.deferred (some [])) → Q .normal { a with defers := { target := .collected D, args := #[] } :: a.defers } W)
    (hstop : ∀ (D : Nat) (c : Code) (pre : List α) (W : World), w.heap.size ≤ D → Sp pre → Ix c pre W → W.heap[D]? = some (.deferred (some [])) → c.wpIn F n P Q { a with defers := { target := .collected D, args := #[] } :: a.defers } W) :
    (Code.rangeFunc g ps assign body).wpIn F n P Q a w := by
  refine wpIn_rangeFunc fun fn hfn => ?_
  rw [hro]
  let rec_ : LoopState → Option Code → Loop := fun st pe => { state := st, pending := pe, fn, tmps := a.tmps, params := ps, assign, body, defers := w.heap.size }
  let W1 := (w.alloc (.deferred (some []))).alloc (.loop (rec_ .ready none))
  have hsz : W1.heap.size = w.heap.size + 2 := by simp [W1]
  have hL1 : W1.heap[w.heap.size + 1]? = some (.loop (rec_ .ready none)) := by
    have := World.alloc_heap_new (w.alloc (.deferred (some []))) (.loop (rec_ .ready none))
    rwa [World.size_alloc] at this
  have hK1 : W1.heap[w.heap.size]? = some (.deferred (some [])) := (Below.heap_alloc _ _ _ (by simp)).trans (World.alloc_heap_new w _)
  have hI1 : I [] W1 := hI.alloc _ (hI.alloc _ h0)
  have hb1 : Below w0.heap.size w0 W1 := hb0.trans ((((Below.refl _ w).alloc (Nat.le_refl _) _).alloc (by simp) _).mono hb0.size)
  -- what the loop itself keeps: its record, its mark
  let BK : LoopState → Option Code → World → Prop := fun st pe W => W.heap[w.heap.size + 1]? = some (.loop (rec_ st pe)) ∧ W.heap[w.heap.size]? = some (.deferred (some []))
  have hBK : ∀ {st pe A B row}, BK st pe A → A.grownBy B row → (∀ r, row = some r → W1.heap.size ≤ r ∧ ∃ o : Obj, A.heap[r]? = some o ∧ o.isWalk = true) → BK st pe B := by
    intro st pe A B row h hg' hr
    have hr' : ∀ r, row = some r → ∃ o : Obj, A.heap[r]? = some o ∧ o.isWalk = true := fun r e => (hr r e).2
    exact ⟨(grownBy_keeps hg' hr' h.1 rfl).trans h.1, (grownBy_keeps hg' hr' h.2 rfl).trans h.2⟩
  have hnw : ∀ {A : World} {row : Option Nat}, (∀ r, row = some r → W1.heap.size ≤ r ∧ ∃ o : Obj, A.heap[r]? = some o ∧ o.isWalk = true) → (∀ r, row = some r → w.heap.size ≤ r ∧ ∃ o : Obj, A.heap[r]? = some o ∧ o.isCells = false) :=
    fun hr r e => by obtain ⟨hB, o, ho, hw⟩ := hr r e; exact ⟨by omega, o, ho, Obj.not_cells_of_walk hw⟩
  refine ⟨w.heap.size + 1, [{ target := .collected w.heap.size, args := #[] }], W1, { target := .fn (.func gf) lb, args := #[.func (.yield (w.heap.size + 1)) #[] #[]] }, W1, gf,
    #[.func (.yield (w.heap.size + 1)) #[] #[]] ++ lb, W1, run_enterLoop_outer _ _ _ _ _, ?_, ?_, ?_, fun _ => h1, ?_⟩
  · simp only [resolve, hg]
    simp [go_sem]
  · intro f' hf'
    simp [Target.leads] at hf'
    subst hf'; exact hF
  · simp [invoke, go_sem, eg]
  refine (hseq (w.heap.size + 1) (fun pre W => I pre W ∧ BK .ready none W) (fun pre W => ∃ c, Ix c pre W ∧ BK .done (some c) W) W1 hb1
    (fun s A B row hs hg' hr => ⟨hI s A B row hs.1 hg' (hnw hr), hBK hs.2 hg' hr⟩)
    (fun s A B row hs hg' hr => by obtain ⟨c, hc, hk⟩ := hs; exact ⟨c, hIx c s A B row hc hg' (hnw hr), hBK hk hg' hr⟩) ?round ⟨hI1, hL1, hK1⟩).mono ?after
  case after =>
    rintro e V ⟨⟨v, rfl⟩, (⟨xs, hS, hi, hl, hk⟩ | ⟨pre, hSp, c, hi, hl, hk⟩)⟩
    · exact ⟨none, _, run_endLoop (P := P) hl (by simp [rec_]), hdone _ xs _ (Nat.le_refl _) hS (hI.putObj _ hi (by omega) hl rfl) ((World.putObj_heap_other (by omega)).trans hk)⟩
    · exact ⟨some c, _, run_endLoop (P := P) hl (by simp [rec_]), hstop _ c pre _ (Nat.le_refl _) hSp ((hIx c).putObj _ hi (by omega) hl rfl) ((World.putObj_heap_other (by omega)).trans hk)⟩
  case round =>
    rintro pre x V ⟨hi, hl, hk⟩ hrd
    have hlt : w.heap.size + 1 < V.heap.size := (Array.getElem?_eq_some_iff.1 hl).1
    refine ⟨fn, _, assign, body, run_yield (P := P) (args := encs x) hl (hps x), roundIn_of_wpIn hfn (hassign _ x V _ ⟨_, run_beginRound ((heap_alloc_old (by omega)).trans hl) rfl, ?_⟩)⟩
    let Va := V.alloc (ob x)
    have hla : Va.heap[w.heap.size + 1]? = some (.loop (rec_ .ready none)) := (heap_alloc_old (by omega)).trans hl
    let V2 := Va.putObj (w.heap.size + 1) (.loop { rec_ .ready none with state := .busy })
    have hsza : Va.heap.size = V.heap.size + 1 := by simp [Va]
    have hl2 : V2.heap[w.heap.size + 1]? = some (.loop { rec_ .ready none with state := .busy }) := World.putObj_heap_same (by omega)
    have hk2 : V2.heap[w.heap.size]? = some (.deferred (some [])) := (World.putObj_heap_other (by omega)).trans ((heap_alloc_old (by omega)).trans hk)
    have hob : V2.heap[V.heap.size]? = some (ob x) := (World.putObj_heap_other (by omega)).trans (World.alloc_heap_new V _)
    have hsz2 : V2.heap.size = V.heap.size + 1 := by simp [V2, World.putObj, hsza]
    have hw2 : Kp V V2 := hKt (hKa V _ (by omega)) (hKb _ _ _ _ (by omega) hla rfl rfl)
    have ends : ∀ (jump : Option Code) (V3 : World), KeepsFrom w.heap.size V2 V3 →
        (Instr.endRound (w.heap.size + 1) jump).run P V3 = .ok (.bool jump.isNone) (V3.putObj (w.heap.size + 1) (.loop (rec_ (if jump.isNone then .ready else .done) jump))) ∧
        V3.heap[w.heap.size + 1]? = some (.loop { rec_ .ready none with state := .busy }) ∧ BK (if jump.isNone then .ready else .done) jump (V3.putObj (w.heap.size + 1) (.loop (rec_ (if jump.isNone then .ready else .done) jump))) := by
      intro jump V3 hk3
      have hl3 := hk3.same _ _ (by omega) hl2 rfl
      exact ⟨run_endRound (P := P) jump hl3, hl3, World.putObj_heap_same (Array.getElem?_eq_some_iff.1 hl3).1, (World.putObj_heap_other (by omega)).trans (hk3.same _ _ (Nat.le_refl _) hk2 rfl)⟩
    refine wpIn_mono (hbody _ V.heap.size pre x V2 (by omega) hob hsz2 ⟨V, _, _, _, hi, rfl, by omega, hla, rfl, rfl⟩ (hI.putObj _ (hI.alloc _ hi) (by omega) hla rfl) ((hRd pre).putObj _ ((hRd pre).alloc _ hrd) (by omega) hla rfl)) ?_
    have left : ∀ (c : Code) (V3 : World), KeepsFrom w.heap.size V2 V3 → Ix c (pre ++ [x]) V3 →
        ∃ v V4, (Instr.endRound (w.heap.size + 1) (some c)).run P V3 = .ok v V4 ∧ ((Ending.returned v = .returned (.bool true) ∧ (I (pre ++ [x]) V4 ∧ BK .ready none V4) ∧ Kp V V4) ∨ (Ending.returned v = .returned (.bool false) ∧ ∃ c, Ix c (pre ++ [x]) V4 ∧ BK .done (some c) V4)) := by
      intro c V3 hk3 hi3
      obtain ⟨hr, hl3, hb⟩ := ends (some c) V3 hk3
      exact ⟨_, _, hr, .inr ⟨rfl, c, (hIx c).putObj _ hi3 (by omega) hl3 rfl, hb⟩⟩
    rintro e a3 V3 hp
    cases e with
    | normal =>
      obtain ⟨hr, hl3, hb⟩ := ends none V3 hp.1
      exact ⟨_, _, hr, .inl ⟨rfl, ⟨hI.putObj _ hp.2.2 (by omega) hl3 rfl, hb⟩, hKt (hKt hw2 hp.2.1) (hKb _ _ _ _ (by omega) hl3 rfl rfl)⟩⟩
    | ret => exact left .ret V3 hp.1 hp.2
    | exit id => exact left (.exit id) V3 hp.1 hp.2
    | goto t => exact left (.goto t) V3 hp.1 hp.2
    | panic ch => exact hp.elim
    | outgrown => exact hp.elim
end
end Go.Proofs.YtmnpchncmbnddaaGreat
