/- Contracts and plain laws that this claim leans on, laid together: Ald, Lop. -/
import Derived.Test.YtmnpchncmbnddaaGreatG05
import Derived.Test.YtmnpchncmbnddaaGreatG12
import Derived.Test.YtmnpchncmbnddaaGreatRebL6
set_option linter.all false
set_option linter.unusedVariables false
set_option linter.unusedSimpArgs false
set_option linter.unnecessarySimpa false
/- An area and a disk of one area, loaded from a span, by contract. -/
namespace Go.Proofs.YtmnpchncmbnddaaGreat
open Go.RowKit

set_option maxRecDepth 100000 in
set_option maxHeartbeats 3200000 in
theorem aLoad_any {w : World} {B c : Nat} {A : Option Addr} {b : List UInt8} {base : Int} (hr : BReads w B A b) (hB : B ≤ w.heap.size) (hl : b.length ≤ 140737488355328) (h0 : 0 ≤ base) (h1 : base ≤ 4611686018427387904) :
    Calls Tryz.prog 73 #[.agg #[.int .i64 base, .slice A b.length c]] w fun e w' => ∃ ga A' c', e = .returned (.tuple #[.pointer (some ⟨ga, 0, none⟩), .int .i64 0]) ∧ Turn (Item.all []) w (Ar.item ⟨ga, A', c', base, b, b.length⟩) w' := by
  have HR := Lib.hid hr
  have HB0 := Lib.hid hB
  obtain ⟨n, hn⟩ : ∃ n, n = b.length := ⟨_, rfl⟩
  have HN := Lib.hid hn
  rw [← hn] at hl ⊢
  have d0 : decide (base < 0) = false := decide_eq_false (by omega)
  have d1 : decide (4611686018427387904 < base) = false := decide_eq_false (by omega)
  obtain ⟨g, hg⟩ : ∃ g, g = w.heap.size := ⟨_, rfl⟩
  obtain ⟨w1, hw1⟩ : ∃ y, y = w.alloc (.cells #[.int .i64 base, .slice A n c] 116) := ⟨_, rfl⟩
  have HW1 := Lib.hid hw1
  have HG := Lib.hid hg
  have B1 := Lib.hid (show Below w.heap.size w w1 from by rw [hw1]; exact (Below.refl _ _).alloc (Nat.le_refl _) _)
  have K1 := Lib.hid (show Blk w1 g 116 #[.int .i64 base, .slice A n c] from by rw [hw1, hg]; exact Blk.new _ _ _)
  clear hr hB hn h0 h1 hw1
  go_enter Tryz.func73, Tryz.ntmps73
  go_upto_region 3 with fail
  rw [← HW1.out]
  rw [← hg]
  clear hg HW1
  have hx := aown_any (w := w1.drew) (c := c) ((HR.out.below (B1.out.mono HB0.out)).below (Below.refl _ _).drew) (by rw [← HN.out]; exact hl)
  rw [← HN.out] at hx
  have HX := Lib.hid hx
  have q0 := (show Blk w1.drew g _ #[.int .i64 base, .slice A n c] from K1.out).cell 0
  have q1 := (show Blk w1.drew g _ #[.int .i64 base, .slice A n c] from K1.out).cell 1
  simp only [List.getElem?_toArray, List.getElem?_cons_zero, List.getElem?_cons_succ] at q0 q1
  have hgl : g < w1.drew.heap.size := K1.out.lt
  clear hx
  go_region_held3 (fun w' => w'.cell? ⟨g, 0, none⟩ = some (.int .i64 base) ∧ w'.cell? ⟨g, 1, none⟩ = some (.slice A n c)) (first | (with_reducible exact ⟨q0, q1⟩) | (with_reducible exact ⟨z0, z1⟩) | go_keep) ((go_at_call 136; refine HX.out.mono ?_; rintro e w2 h; obtain ⟨v2, rfl, ho, hb⟩ := h.out; obtain ⟨A2, c2, rfl, _, _⟩ := BOwns.slice ho; have HO := Lib.hid ho; have HB := Lib.hid hb; have z0 := (hb.cell (p := ⟨g, 0, none⟩) hgl).trans q0; have z1 := (hb.cell (p := ⟨g, 1, none⟩) hgl).trans q1; clear h ho hb))
  have T3 := Lib.hid (show ∀ W, W = w2.alloc (.cells #[.int .i64 base, .slice A2 b.length c2, .int .i64 n] 221) → Turn (Item.all []) w (Ar.item ⟨w2.heap.size, A2, c2, base, b, n⟩) W from fun W hW => by
    have t1 := ((Turn.none_ (w := w)).go (B1.out.trans ((Below.refl w1.heap.size w1).drew.mono B1.out.size))).more (y := Item.row (.slice A2 b.length c2) b) HB.out (owns_less HO.out (Nat.zero_le _)) (fun k hk => (HO.out.lt hk).1)
    rw [hW]
    exact t1.more (y := Item.blk w2.heap.size 221 #[.int .i64 base, .slice A2 b.length c2, .int .i64 n]) ((Below.refl _ _).alloc (Nat.le_refl _) _) (Blk.new _ _ _) (fun k hk => Nat.le_of_eq hk.symm))
  clear q0 q1 z0 z1
  go_wp2
  go_ret2
  exact ⟨_, A2, c2, rfl, T3.out _ rfl⟩
/-- The same disk of one area with another area. -/
theorem one_area {w0 w w' : World} {d : Dk} {p : Pt} {a : Ar} (hp : d.ps = [p]) (T : Turn (Item.all []) w0 (Item.all [d.item, a.item]) w) (hw : w' = w.setCell ⟨d.gp, 0, none⟩ (.pointer (some ⟨a.g, 0, none⟩))) :
    Turn (Item.all []) w0 (Dk.item { d with ps := [{ p with a := a }] }) w' := by
  obtain ⟨g, gp, ar, ps⟩ := d
  simp only at hp hw
  subst hp
  have t1 : Turn (Item.all []) w0 (Item.all [Item.blk g 149 #[.slice (some ⟨gp, 0, none⟩) 1 1, .bool ar], Item.blk gp 146 (partCells [p]), p.a.item, a.item]) w := T.sameR same_flat
  have t2 := t1.step (i := 1) rfl (Turn.cell (t1.get (i := 1) rfl) 0 (.pointer (some ⟨a.g, 0, none⟩)))
  rw [hw]
  have e : (partCells [p]).setIfInBounds 0 (.pointer (some ⟨a.g, 0, none⟩)) = partCells [{ p with a := a }] := by
    apply Array.ext'
    simp [partCells, Pt.cells]
  rw [e] at t2
  exact t2.sub (List.Sublist.cons_cons _ (List.Sublist.cons_cons _ (List.sublist_cons_self _ _)))
def DLoadPost (base : Int) (b : List UInt8) (w : World) (e : Ending) (w' : World) : Prop :=
  ∃ (g gp ga : Nat) (A' : Option Addr) (c' : Nat), e = .returned (.tuple #[.pointer (some ⟨g, 0, none⟩), .int .i64 0]) ∧ Turn (Item.all []) w (Dk.item ⟨g, gp, false, [⟨⟨ga, A', c', base, b, b.length⟩, 0, 0, 0, 0⟩]⟩) w'
set_option maxRecDepth 100000 in
set_option maxHeartbeats 3200000 in
theorem dLoad1_any {w : World} {B o c cb : Nat} {A : Option Addr} {b : List UInt8} {base : Int} (q0 : w.cell? ⟨B, o, none⟩ = some (.int .i64 base)) (q1 : w.cell? ⟨B, o + 1, none⟩ = some (.slice A b.length cb)) (hB : B < w.heap.size) (hr : BReads w w.heap.size A b) (hl : b.length ≤ 140737488355328) (h0 : 0 ≤ base) (h1 : base ≤ 4611686018427387904) :
    Calls Tryz.prog 23 #[.slice (some ⟨B, o, none⟩) 1 c] w (DLoadPost base b w) := by
  have HR := Lib.hid hr
  obtain ⟨n, hn⟩ : ∃ n, n = b.length := ⟨_, rfl⟩
  have HN := Lib.hid hn
  rw [← hn] at q1 hl
  have HQ := Lib.hid (And.intro q0 (And.intro q1 hB))
  have HH := Lib.hid (And.intro h0 h1)
  clear hr hn q0 q1 hB h0 h1
  go_enter Tryz.func23, Tryz.ntmps23
  go_wp2_with fail
  refine (dNew_any (w := w) 1 (by decide) (by decide)).mono ?_
  rintro e w1 ⟨⟨g, gp, ar, ps⟩, rfl, hpl, hps, rfl, t⟩
  obtain ⟨p, rfl⟩ : ∃ p, ps = [p] := List.length_eq_one_iff.1 hpl
  obtain ⟨a, rfl⟩ : ∃ a, p = freshPt a := ⟨_, hps p (List.mem_singleton_self _)⟩
  have T1 := Lib.hid t
  clear hpl hps t
  simp only
  go_wp2
  go_loopw [21] (fun t wr => ∃ K : Nat, t = .int .i64 K ∧ K ≤ 1 ∧ Hid (K = 0 → Turn (Item.all []) w (Item.all [Dk.item ⟨g, gp, false, [freshPt a]⟩]) wr) ∧ Hid (K = 1 → ∃ ga A' c', Turn (Item.all []) w (Dk.item ⟨g, gp, false, [⟨⟨ga, A', c', base, b, b.length⟩, 0, 0, 0, 0⟩]⟩) wr)) (fun t _ => 1 - (intOf t).toNat)
  case atStart => exact ⟨0, rfl, by decide, Lib.hid fun _ => T1.out.one, Lib.hid fun h => by cases h⟩
  case round =>
    clear T1
    obtain ⟨K, rfl, hK, hH, hE⟩ := hrel
    by_cases hlt : (K : Int) < 1
    · obtain rfl : K = 0 := by omega
      have T1 := Lib.hid (hH.out rfl)
      have BW := Lib.hid (T1.out.free)
      have q0 := (BW.out.cell HQ.out.2.2).trans HQ.out.1
      have q1 := (BW.out.cell (p := ⟨B, o + 1, none⟩) HQ.out.2.2).trans HQ.out.2.1
      have hbr : B < wr.heap.size := Nat.lt_of_lt_of_le HQ.out.2.2 BW.out.size
      obtain ⟨g2, hg2⟩ : ∃ g, g = wr.heap.size := ⟨_, rfl⟩
      obtain ⟨w2, hw2⟩ : ∃ y, y = wr.alloc (.cells #[.int .i64 base, .slice A n cb] 116) := ⟨_, rfl⟩
      have HW2 := Lib.hid hw2
      have T2 := Lib.hid (show Turn (Item.all []) w (Item.all [Item.blk g2 116 #[.int .i64 base, .slice A n cb], Dk.item ⟨g, gp, false, [freshPt a]⟩]) w2 from by
        rw [hw2, hg2]
        exact T1.out.more (y := Item.blk wr.heap.size 116 #[.int .i64 base, .slice A n cb]) ((Below.refl _ _).alloc (Nat.le_refl _) _) (Blk.new _ _ _) (fun k hk => Nat.le_of_eq hk.symm))
      have HL := Lib.hid (aLoad_any (w := w2) (c := cb) (base := base) ((HR.out.below T2.out.free).more T2.out.free.size) (Nat.le_refl _) (by rw [← HN.out]; exact hl) HH.out.1 HH.out.2)
      rw [← HN.out] at HL
      clear hH hE hw2 T1
      go_upto_region 7 with fail
      rw [← HW2.out]
      rw [← hg2]
      clear HW2 hg2 q0 q1 hbr
      have q0 := Blk.cell (show Blk w2 g2 _ #[.int .i64 base, .slice A n cb] from T2.out.get (i := 0) rfl) 0
      have q1 := Blk.cell (show Blk w2 g2 _ #[.int .i64 base, .slice A n cb] from T2.out.get (i := 0) rfl) 1
      simp only [List.getElem?_toArray, List.getElem?_cons_zero, List.getElem?_cons_succ] at q0 q1
      go_wp2_with fail
      refine HL.out.mono ?_
      rintro e w3 ⟨ga, A', c', rfl, t3⟩
      have T3 := Lib.hid (show Turn (Item.all []) w (Item.all [Dk.item ⟨g, gp, false, [freshPt a]⟩, Ar.item ⟨ga, A', c', base, b, n⟩]) w3 from (T2.out.join t3.one).sub (List.sublist_cons_self _ _))
      have hd := T3.out.get (i := 0) rfl
      have y0 := (Dk.blk hd).cell 0
      simp only [List.getElem?_toArray, List.getElem?_cons_zero, List.getElem?_cons_succ, List.length_singleton] at y0
      have y1 := Dk.cell hd (i := 0) rfl (j := 0) (by decide)
      simp only [Nat.zero_mul, Nat.add_zero] at y1
      have y1' : w3.cell? ⟨gp, 0, none⟩ = some (.pointer (some ⟨(freshPt a).a.g, 0, none⟩)) := y1
      have f1 := (Dk.parts hd).frozen 0
      have hgl : g < w3.heap.size := (Dk.blk hd).lt
      have hgpl : gp < w3.heap.size := (Dk.parts hd).lt
      clear hd y1 t3 T2 HL q0 q1
      have HE := Lib.hid (fun (W : World) (hW : W = w3.setCell ⟨gp, 0, none⟩ (.pointer (some ⟨ga, 0, none⟩))) => (show ∃ ga A' c', Turn (Item.all []) w (Dk.item ⟨g, gp, false, [⟨⟨ga, A', c', base, b, b.length⟩, 0, 0, 0, 0⟩]⟩) W from ⟨ga, A', c', by rw [← HN.out]; exact one_area (d := ⟨g, gp, false, [freshPt a]⟩) (p := freshPt a) (a := ⟨ga, A', c', base, b, n⟩) rfl T3.out hW⟩))
      clear T3
      go_wp2
      exact ⟨⟨1, by go_num, Nat.le_refl _, Lib.hid (fun h => by cases h), Lib.hid (fun _ => HE.out _ rfl)⟩, by simp [intOf]⟩
    · obtain rfl : K = 1 := by omega
      have HE := Lib.hid (hE.out rfl)
      clear hH hE
      go_wp2
      go_ret2
      obtain ⟨ga, A', c', t⟩ := HE.out
      exact ⟨g, gp, ga, A', c', rfl, t⟩
end Go.Proofs.YtmnpchncmbnddaaGreat
/- Laws of layer 20: a log in an area with these bytes, all safe, by contract. -/
namespace Go.Proofs.YtmnpchncmbnddaaGreat
open Go.RowKit

/-- A part whose area was loaded. -/
def loadPt (ga : Nat) (A : Option Addr) (c : Nat) (base : Int) (b : List UInt8) : Pt := ⟨⟨ga, A, c, base, b, b.length⟩, 0, 0, 0, 0⟩
def OpenPost (b : List UInt8) (w : World) (e : Ending) (w' : World) : Prop :=
  ∃ (g gp gl ga : Nat) (A : Option Addr) (c : Nat), e = .returned (.tuple #[.pointer (some ⟨g, 0, none⟩), .pointer (some ⟨gl, 0, none⟩), .bool true]) ∧ Turn (Item.all []) w (Item.all [lg gl g gp false (loadPt ga A c 0 b)]) w'
set_option maxRecDepth 100000 in
set_option maxHeartbeats 3200000 in
theorem lopen20_any {w : World} {A : Option Addr} {c : Nat} {b : List UInt8} (hr : BReads w w.heap.size A b) (hl : b.length ≤ 16777216) :
    Calls Tryz.prog 44 #[.slice A b.length c] w (OpenPost b w) := by
  obtain ⟨n, hn⟩ : ∃ n, n = b.length := ⟨_, rfl⟩
  have HN := Lib.hid hn
  obtain ⟨w1, hw1⟩ : ∃ y, y = w.alloc (.cells #[.int .i64 0, .slice A n c] 116) := ⟨_, rfl⟩
  have HW1 := Lib.hid hw1
  have B1 := Lib.hid (show Below w.heap.size w w1 from by rw [hw1]; exact (Below.refl _ _).alloc (Nat.le_refl _) _)
  have K1 := Lib.hid (show Blk w1 w.heap.size 116 #[.int .i64 0, .slice A n c] from by rw [hw1]; exact Blk.new _ _ _)
  have q0 := K1.out.cell 0
  have q1 := K1.out.cell 1
  simp only [List.getElem?_toArray, List.getElem?_cons_zero, List.getElem?_cons_succ] at q0 q1
  rw [hn] at q1
  have HD := Lib.hid (dLoad1_any (w := w1) (B := w.heap.size) (o := 0) (c := 1) (cb := c) (base := 0) (b := b) q0 q1 K1.out.lt ((hr.below B1.out).more B1.out.size) (by omega) (Int.le_refl _) (by decide))
  rw [← hn] at hl ⊢
  clear hr hn hw1 q0 q1
  go_enter Tryz.func44, Tryz.ntmps44
  go_wp2_with fail
  rw [← HW1.out]
  refine HD.out.mono ?_
  rintro e w2 ⟨g, gp, ga, A', c', rfl, t⟩
  have T2 := Lib.hid t
  clear t HD HW1 K1
  go_wp2_with fail
  refine (lOpen_any (d := ⟨g, gp, false, [⟨⟨ga, A', c', 0, b, b.length⟩, 0, 0, 0, 0⟩]⟩) T2.out.p (by simp) 0 rfl (Int.le_refl _) (by simp) (by simp only; rw [← HN.out]; omega) (Nat.le_refl _)).mono ?_
  rintro e w3 ⟨gl, hgl, rfl, hk, hb⟩
  have HR := Lib.hid (show OpenPost b w (.returned (.tuple #[.pointer (some ⟨g, 0, none⟩), .pointer (some ⟨gl, 0, none⟩), .bool true])) w3 from ⟨g, gp, gl, ga, A', c', rfl, by
    have t := lg_of T2.out hgl hk hb
    exact Turn.pre B1.out t⟩)
  clear hgl hk hb T2
  go_wp2
  go_ret3
  exact HR.out
end Go.Proofs.YtmnpchncmbnddaaGreat
