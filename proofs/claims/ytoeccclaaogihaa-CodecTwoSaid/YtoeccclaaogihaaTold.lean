/- The law's helper told. -/
import Derived.Test.YtoeccclaaogihaaRefR5
import Derived.Test.YtoeccclaaogihaaStep
import Derived.Deep.RegionHeld3
namespace Go.Proofs.Ytoeccclaaogihaa
open Go.RowKit

def ToldPost (w : World) (A : Option Addr) (c : Nat) (x : (Int × List UInt8) × Rd) (e : Ending) (w' : World) : Prop :=
  ∃ A' c', e = .returned (.tuple #[.int .u64 x.1.1, .slice A' x.1.2.length c', rv A c x.2]) ∧ (∀ w'', Keeps (fun k => k < w.heap.size) w' w'' → BReads w'' w''.heap.size A' x.1.2) ∧ Below w.heap.size w w' ∧ x.2.at_ ≤ x.2.l.length
/-- told at work: its reader, its step, the answer's variable, each in a new block. -/
structure Tri (w W : World) (A : Option Addr) (c : Nat) (r : Rd) (s : Sp) : Prop where
  box : Blk W w.heap.size 49 #[.slice A r.l.length c, .int .i64 r.at_, .int .i64 r.f]
  stp : Blk W (w.heap.size + 1) 54 #[.int .i64 s.kind, .int .i64 s.low, .int .i64 s.high, .int .i64 s.most]
  res : Blk W (w.heap.size + 2) 49 #[.slice none 0 0, .int .i64 0, .int .i64 0]
  below : Below w.heap.size w W
theorem Tri.start (w : World) (A : Option Addr) (c : Nat) (r : Rd) (s : Sp) : Tri w (((w.alloc (.cells #[.slice A r.l.length c, .int .i64 r.at_, .int .i64 r.f] 49)).alloc (.cells #[.int .i64 s.kind, .int .i64 s.low, .int .i64 s.high, .int .i64 s.most] 54)).alloc (.cells #[.slice none 0 0, .int .i64 0, .int .i64 0] 49)) A c r s :=
  ⟨((Blk.new _ _ _).alloc _).alloc _, by
    have := (Blk.new (w.alloc (.cells #[.slice A r.l.length c, .int .i64 r.at_, .int .i64 r.f] 49)) 54 #[.int .i64 s.kind, .int .i64 s.low, .int .i64 s.high, .int .i64 s.most]).alloc (.cells #[.slice none 0 0, .int .i64 0, .int .i64 0] 49)
    rwa [show (w.alloc (.cells #[.slice A r.l.length c, .int .i64 r.at_, .int .i64 r.f] 49)).heap.size = w.heap.size + 1 from by simp] at this, by
    have := Blk.new ((w.alloc (.cells #[.slice A r.l.length c, .int .i64 r.at_, .int .i64 r.f] 49)).alloc (.cells #[.int .i64 s.kind, .int .i64 s.low, .int .i64 s.high, .int .i64 s.most] 54)) 49 #[.slice none 0 0, .int .i64 0, .int .i64 0]
    rwa [show ((w.alloc (.cells #[.slice A r.l.length c, .int .i64 r.at_, .int .i64 r.f] 49)).alloc (.cells #[.int .i64 s.kind, .int .i64 s.low, .int .i64 s.high, .int .i64 s.most] 54)).heap.size = w.heap.size + 2 from by simp] at this, (((Below.refl _ w).alloc (Nat.le_refl _) _).alloc (by simp) _).alloc (by simp; omega) _⟩
theorem Tri.go {w W W' : World} {A : Option Addr} {c : Nat} {r : Rd} {s : Sp} (h : Tri w W A c r s) (hb : Below W.heap.size W W') : Tri w W' A c r s :=
  ⟨h.box.below' hb, h.stp.below' hb, h.res.below' hb, h.below.trans (hb.mono h.below.size)⟩
theorem Tri.cells {w W : World} {A : Option Addr} {c : Nat} {r : Rd} {s : Sp} (h : Tri w W A c r s) :
    (W.cell? ⟨w.heap.size, 0, none⟩ = some (.slice A r.l.length c) ∧ W.cell? ⟨w.heap.size, 1, none⟩ = some (.int .i64 r.at_) ∧ W.cell? ⟨w.heap.size, 2, none⟩ = some (.int .i64 r.f)) ∧
    (W.cell? ⟨w.heap.size + 1, 0, none⟩ = some (.int .i64 s.kind) ∧ W.cell? ⟨w.heap.size + 1, 1, none⟩ = some (.int .i64 s.low) ∧ W.cell? ⟨w.heap.size + 1, 2, none⟩ = some (.int .i64 s.high) ∧ W.cell? ⟨w.heap.size + 1, 3, none⟩ = some (.int .i64 s.most)) ∧
    (W.cell? ⟨w.heap.size + 2, 0, none⟩ = some (.slice none 0 0) ∧ W.cell? ⟨w.heap.size + 2, 1, none⟩ = some (.int .i64 0) ∧ W.cell? ⟨w.heap.size + 2, 2, none⟩ = some (.int .i64 0)) ∧
    W.frozen? ⟨w.heap.size + 2, 0, none⟩ = false ∧ W.frozen? ⟨w.heap.size + 2, 1, none⟩ = false ∧ W.frozen? ⟨w.heap.size + 2, 2, none⟩ = false :=
  ⟨⟨by simpa using h.box.cell 0, by simpa using h.box.cell 1, by simpa using h.box.cell 2⟩, ⟨by simpa using h.stp.cell 0, by simpa using h.stp.cell 1, by simpa using h.stp.cell 2, by simpa using h.stp.cell 3⟩,
    ⟨by simpa using h.res.cell 0, by simpa using h.res.cell 1, by simpa using h.res.cell 2⟩, h.res.frozen 0, h.res.frozen 1, h.res.frozen 2⟩
theorem set3_far {w : World} {g b o : Nat} {x y z v : Value} (hne : b ≠ g) (h : w.cell? ⟨b, o, none⟩ = some v) : (((w.setCell ⟨g, 0, none⟩ x).setCell ⟨g, 1, none⟩ y).setCell ⟨g, 2, none⟩ z).cell? ⟨b, o, none⟩ = some v := by
  rw [World.cell?_setCell_other _ _ _ _ (fun e => hne (by injection e with e; exact e.symm)), World.cell?_setCell_other _ _ _ _ (fun e => hne (by injection e with e; exact e.symm)), World.cell?_setCell_other _ _ _ _ (fun e => hne (by injection e with e; exact e.symm))]
  exact h
theorem blk_set3_far {w : World} {g b : Nat} {t : TypeId} {cs : Array Value} {x y z : Value} (h : Blk w b t cs) (hne : b ≠ g) : Blk (set3 w g x y z) b t cs :=
  ((h.far (p := ⟨g, 0, none⟩) hne x).far (p := ⟨g, 1, none⟩) hne y).far (p := ⟨g, 2, none⟩) hne z
theorem Tri.far {w W : World} {A : Option Addr} {c g : Nat} {r : Rd} {s : Sp} (h : Tri w W A c r s) (hg : w.heap.size + 2 < g) (x y z : Value) : Tri w (set3 W g x y z) A c r s :=
  ⟨blk_set3_far h.box (g := g) (by omega), blk_set3_far h.stp (g := g) (by omega), blk_set3_far h.res (g := g) (by omega), below_set3 h.below (by omega) _ _ _⟩
theorem Tri.drew {w W : World} {A : Option Addr} {c : Nat} {r : Rd} {s : Sp} (h : Tri w W A c r s) : Tri w W.drew A c r s := ⟨h.box, h.stp, h.res, h.below.drew⟩
theorem Tri.close {w W : World} {A : Option Addr} {c : Nat} {r : Rd} {s : Sp} (h : Tri w W A c r s) (n at' f' : Value) :
    Below w.heap.size w (set3 W (w.heap.size + 1 + 1) n at' f') ∧ (set3 W (w.heap.size + 1 + 1) n at' f').cell? ⟨w.heap.size + 1 + 1, 0, none⟩ = some n ∧ (set3 W (w.heap.size + 1 + 1) n at' f').cell? ⟨w.heap.size + 1 + 1, 1, none⟩ = some at' ∧ (set3 W (w.heap.size + 1 + 1) n at' f').cell? ⟨w.heap.size + 1 + 1, 2, none⟩ = some f' := by
  have hb := h.res.set3 n at' f'
  exact ⟨below_set3 h.below (by omega) _ _ _, by simpa using hb.cell 0, by simpa using hb.cell 1, by simpa using hb.cell 2⟩
/-- The variable 'next', in a block of its own. -/
structure Nxt (w W : World) (A : Option Addr) (c : Nat) (r : Rd) (s : Sp) (g : Nat) (x : Rd) : Prop where
  tri : Tri w W A c r s
  next : Blk W g 49 #[.slice A x.l.length c, .int .i64 x.at_, .int .i64 x.f]
  gt : w.heap.size + 2 < g
theorem Nxt.after {w W w1 : World} {A : Option Addr} {c : Nat} {r : Rd} {s : Sp} (h : Tri w W A c r s) (hb : Below W.heap.size W w1) (x : Rd) :
    Nxt w (w1.alloc (.cells #[.slice A x.l.length c, .int .i64 x.at_, .int .i64 x.f] 49)) A c r s w1.heap.size x :=
  ⟨(h.go hb).go ((Below.refl _ _).alloc (Nat.le_refl _) _), Blk.new _ _ _, (h.go hb).res.lt⟩
theorem Nxt.ahead {w W w1 : World} {A : Option Addr} {c : Nat} {r : Rd} {s : Sp} (h : Tri w W A c r s) (hb : Below W.heap.size W w1) (x : Rd)
    (hk : Blk w1 W.heap.size 49 #[.slice none 0 0, .int .i64 0, .int .i64 0]) :
    Nxt w (set3 w1 W.heap.size (.slice A x.l.length c) (.int .i64 x.at_) (.int .i64 x.f)) A c r s W.heap.size x :=
  ⟨(h.go hb).far h.res.lt _ _ _, hk.set3 _ _ _, h.res.lt⟩
theorem Nxt.cells {w W : World} {A : Option Addr} {c g : Nat} {r x : Rd} {s : Sp} (h : Nxt w W A c r s g x) :
    W.cell? ⟨g, 0, none⟩ = some (.slice A x.l.length c) ∧ W.cell? ⟨g, 1, none⟩ = some (.int .i64 x.at_) ∧ W.cell? ⟨g, 2, none⟩ = some (.int .i64 x.f) :=
  ⟨by simpa using h.next.cell 0, by simpa using h.next.cell 1, by simpa using h.next.cell 2⟩

set_option maxRecDepth 100000 in
theorem told0_any {w : World} {A : Option Addr} {c : Nat} {l : List UInt8} {at_ : Nat} {f : Int} (hr : RvOk w A c ⟨l, at_, f⟩) (low high most : Int) :
    Calls Try.prog 39 #[.agg #[.slice A l.length c, .int .i64 at_, .int .i64 f], .agg #[.int .i64 0, .int .i64 low, .int .i64 high, .int .i64 most]] w (ToldPost w A c (Rd.call ⟨l, at_, f⟩ ⟨0, low, high, most⟩)) := by
  have H := Lib.hid hr
  clear hr
  go_enter Try.func39, Try.ntmps39
  go_wp2_with fail
  obtain ⟨W0, hW0⟩ : ∃ x, x = ((w.alloc (.cells #[.slice A l.length c, .int .i64 at_, .int .i64 f] 49)).alloc (.cells #[.int .i64 0, .int .i64 low, .int .i64 high, .int .i64 most] 54)).alloc (.cells #[.slice none 0 0, .int .i64 0, .int .i64 0] 49) := ⟨_, rfl⟩
  have T0 := Lib.hid (show Tri w W0 A c ⟨l, at_, f⟩ ⟨0, low, high, most⟩ from by rw [hW0]; exact Tri.start w A c ⟨l, at_, f⟩ ⟨0, low, high, most⟩)
  rw [← hW0]
  clear hW0
  have RV := Lib.hid (H.out.below T0.out.below)
  obtain ⟨⟨a0, a1, a2⟩, ⟨b0, b1, b2, b3⟩, ⟨j0, j1, j2⟩, j3, j4, j5⟩ := T0.out.cells
  simp only at a0 a1 a2 b0 b1 b2 b3
  have hn0 : w.heap.size ≠ W0.heap.size := by have := T0.out.res.lt; omega
  have hn1 : w.heap.size + 1 ≠ W0.heap.size := by have := T0.out.res.lt; omega
  go_region_held3 (fun w' => w'.cell? ⟨w.heap.size, 0, none⟩ = some (.slice A l.length c) ∧ w'.cell? ⟨w.heap.size, 1, none⟩ = some (.int .i64 at_) ∧ w'.cell? ⟨w.heap.size, 2, none⟩ = some (.int .i64 f) ∧ w'.cell? ⟨w.heap.size + 1, 0, none⟩ = some (.int .i64 0)) (first | (exact ⟨x0, x1, x2, y0⟩) | go_keep | (exact ⟨set3_far hn0 x0, set3_far hn0 x1, set3_far hn0 x2, set3_far hn1 y0⟩)) (first | (go_at_call 64; refine (refTake_any (A := A) (c := c) (r := ⟨l, at_, f⟩) (RV.out.below (by first | exact (Below.refl _ _).drew | exact ((Below.refl _ _).drew).alloc (Nat.le_refl _) _ | exact ((Below.refl _ _).alloc (Nat.le_refl _) _).drew)) 1 (by decide)).mono ?_; obtain ⟨x, hx⟩ : ∃ x, x = Rd.take ⟨l, at_, f⟩ 1 := ⟨_, rfl⟩; rw [← hx]; obtain ⟨n, ⟨l2, at2, f2⟩⟩ := x; rintro e w1 ⟨rfl, hb, hle⟩; unfold rv; simp only at hle; have HX := Lib.hid hx; clear hx; have B1 := Lib.hid (show Below W0.heap.size W0 w1 from by first | exact ⟨hb.os, hb.tape, hb.output, hb.size, hb.block⟩ | exact below_alloc1 ⟨hb.os, hb.tape, hb.output, hb.size, hb.block⟩); obtain ⟨⟨x0, x1, x2⟩, ⟨y0, y1, y2, y3⟩, _⟩ := (T0.out.go B1.out).cells; try (have Kx : Blk w1 W0.heap.size 49 #[.slice none 0 0, .int .i64 0, .int .i64 0] := Blk.below' (Blk.new W0.drew 49 #[.slice none 0 0, .int .i64 0, .int .i64 0]) hb; have z0 := Kx.cell 0; have z1 := Kx.cell 1; have z2 := Kx.cell 2; have z3 := Kx.frozen 0; have z4 := Kx.frozen 1; have z5 := Kx.frozen 2; simp at z0 z1 z2; have KX := Lib.hid Kx; clear Kx)))
  · have N9 := Lib.hid (Nxt.after T0.out B1.out ⟨l2, at2, f2⟩)
    have HE := Lib.hid (show Rd.call ⟨l, at_, f⟩ ⟨0, low, high, most⟩ = (((n : Int), []), ⟨l2, at2, f2⟩) from by unfold Rd.call; simp only [Int.reduceEq, if_false, if_true]; try rw [← HX.out])
    clear x0 x1 x2 y0 y1 y2 y3 a0 a1 a2 b0 b1 b2 b3 j0 j1 j2 j3 j4 j5
    obtain ⟨W9, hW9⟩ : ∃ x, x = w1.alloc (.cells #[.slice A l2.length c, .int .i64 at2, .int .i64 f2] 49) := ⟨_, rfl⟩
    rw [← hW9] at N9 ⊢
    clear hW9
    obtain ⟨_, _, ⟨j0, j1, j2⟩, j3, j4, j5⟩ := N9.out.tri.cells
    obtain ⟨n0, n1, n2⟩ := N9.out.cells
    simp only at n0 n1 n2
    go_wp2
    go_region
    go_wp2
    change bodyPost _ _ _ _ _ (set3 W9 (w.heap.size + 1 + 1) _ _ _).drew
    obtain ⟨hb2, e0, e1, e2⟩ := (N9.out.tri).close (.slice A l2.length c) (.int .i64 at2) (.int .i64 f2)
    exact bodyPost_ret (v := .tuple #[.int .u64 n, .slice none 0 0, rv A c ⟨l2, at2, f2⟩]) (by simp [results, Try.results39, go_sem, e0, e1, e2, rv]) rfl ⟨none, 0, by first | (rw [HE.out]; done) | (rw [HE.out]; rfl), by rw [HE.out]; exact (fun _ _ => Reads.none_), hb2.drew, by rw [HE.out]; exact hle⟩
  · change Exit.then _ _ _ _ (set3 w1 W0.heap.size _ _ _)
    have N9 := Lib.hid (Nxt.ahead T0.out B1.out ⟨l2, at2, f2⟩ KX.out)
    have HE := Lib.hid (show Rd.call ⟨l, at_, f⟩ ⟨0, low, high, most⟩ = (((n : Int), []), ⟨l2, at2, f2⟩) from by unfold Rd.call; simp only [Int.reduceEq, if_false, if_true]; try rw [← HX.out])
    clear x0 x1 x2 y0 y1 y2 y3 z0 z1 z2 z3 z4 z5 a0 a1 a2 b0 b1 b2 b3 j0 j1 j2 j3 j4 j5
    obtain ⟨W9, hW9⟩ : ∃ x, x = set3 w1 W0.heap.size (.slice A l2.length c) (.int .i64 at2) (.int .i64 f2) := ⟨_, rfl⟩
    rw [← hW9] at N9 ⊢
    clear hW9
    obtain ⟨_, _, ⟨j0, j1, j2⟩, j3, j4, j5⟩ := N9.out.tri.cells
    obtain ⟨n0, n1, n2⟩ := N9.out.cells
    simp only at n0 n1 n2
    go_wp2
    go_region
    go_wp2
    change bodyPost _ _ _ _ _ (set3 W9 (w.heap.size + 1 + 1) _ _ _).drew
    obtain ⟨hb2, e0, e1, e2⟩ := (N9.out.tri).close (.slice A l2.length c) (.int .i64 at2) (.int .i64 f2)
    exact bodyPost_ret (v := .tuple #[.int .u64 n, .slice none 0 0, rv A c ⟨l2, at2, f2⟩]) (by simp [results, Try.results39, go_sem, e0, e1, e2, rv]) rfl ⟨none, 0, by first | (rw [HE.out]; done) | (rw [HE.out]; rfl), by rw [HE.out]; exact (fun _ _ => Reads.none_), hb2.drew, by rw [HE.out]; exact hle⟩
set_option maxRecDepth 100000 in
theorem told1_any {w : World} {A : Option Addr} {c : Nat} {l : List UInt8} {at_ : Nat} {f : Int} (hr : RvOk w A c ⟨l, at_, f⟩) (low high most : Int) :
    Calls Try.prog 39 #[.agg #[.slice A l.length c, .int .i64 at_, .int .i64 f], .agg #[.int .i64 1, .int .i64 low, .int .i64 high, .int .i64 most]] w (ToldPost w A c (Rd.call ⟨l, at_, f⟩ ⟨1, low, high, most⟩)) := by
  have H := Lib.hid hr
  clear hr
  go_enter Try.func39, Try.ntmps39
  go_wp2_with fail
  obtain ⟨W0, hW0⟩ : ∃ x, x = ((w.alloc (.cells #[.slice A l.length c, .int .i64 at_, .int .i64 f] 49)).alloc (.cells #[.int .i64 1, .int .i64 low, .int .i64 high, .int .i64 most] 54)).alloc (.cells #[.slice none 0 0, .int .i64 0, .int .i64 0] 49) := ⟨_, rfl⟩
  have T0 := Lib.hid (show Tri w W0 A c ⟨l, at_, f⟩ ⟨1, low, high, most⟩ from by rw [hW0]; exact Tri.start w A c ⟨l, at_, f⟩ ⟨1, low, high, most⟩)
  rw [← hW0]
  clear hW0
  have RV := Lib.hid (H.out.below T0.out.below)
  obtain ⟨⟨a0, a1, a2⟩, ⟨b0, b1, b2, b3⟩, ⟨j0, j1, j2⟩, j3, j4, j5⟩ := T0.out.cells
  simp only at a0 a1 a2 b0 b1 b2 b3
  have hn0 : w.heap.size ≠ W0.heap.size := by have := T0.out.res.lt; omega
  have hn1 : w.heap.size + 1 ≠ W0.heap.size := by have := T0.out.res.lt; omega
  go_region_held3 (fun w' => w'.cell? ⟨w.heap.size, 0, none⟩ = some (.slice A l.length c) ∧ w'.cell? ⟨w.heap.size, 1, none⟩ = some (.int .i64 at_) ∧ w'.cell? ⟨w.heap.size, 2, none⟩ = some (.int .i64 f) ∧ w'.cell? ⟨w.heap.size + 1, 0, none⟩ = some (.int .i64 1)) (first | (exact ⟨x0, x1, x2, y0⟩) | go_keep | (exact ⟨set3_far hn0 x0, set3_far hn0 x1, set3_far hn0 x2, set3_far hn1 y0⟩)) (first | (go_at_call 64; refine (refTake_any (A := A) (c := c) (r := ⟨l, at_, f⟩) (RV.out.below (by first | exact (Below.refl _ _).drew | exact ((Below.refl _ _).drew).alloc (Nat.le_refl _) _ | exact ((Below.refl _ _).alloc (Nat.le_refl _) _).drew)) 2 (by decide)).mono ?_; obtain ⟨x, hx⟩ : ∃ x, x = Rd.take ⟨l, at_, f⟩ 2 := ⟨_, rfl⟩; rw [← hx]; obtain ⟨n, ⟨l2, at2, f2⟩⟩ := x; rintro e w1 ⟨rfl, hb, hle⟩; unfold rv; simp only at hle; have HX := Lib.hid hx; clear hx; have B1 := Lib.hid (show Below W0.heap.size W0 w1 from by first | exact ⟨hb.os, hb.tape, hb.output, hb.size, hb.block⟩ | exact below_alloc1 ⟨hb.os, hb.tape, hb.output, hb.size, hb.block⟩); obtain ⟨⟨x0, x1, x2⟩, ⟨y0, y1, y2, y3⟩, _⟩ := (T0.out.go B1.out).cells; try (have Kx : Blk w1 W0.heap.size 49 #[.slice none 0 0, .int .i64 0, .int .i64 0] := Blk.below' (Blk.new W0.drew 49 #[.slice none 0 0, .int .i64 0, .int .i64 0]) hb; have z0 := Kx.cell 0; have z1 := Kx.cell 1; have z2 := Kx.cell 2; have z3 := Kx.frozen 0; have z4 := Kx.frozen 1; have z5 := Kx.frozen 2; simp at z0 z1 z2; have KX := Lib.hid Kx; clear Kx)))
  · have N9 := Lib.hid (Nxt.after T0.out B1.out ⟨l2, at2, f2⟩)
    have HE := Lib.hid (show Rd.call ⟨l, at_, f⟩ ⟨1, low, high, most⟩ = (((n : Int), []), ⟨l2, at2, f2⟩) from by unfold Rd.call; simp only [Int.reduceEq, if_false, if_true]; try rw [← HX.out])
    clear x0 x1 x2 y0 y1 y2 y3 a0 a1 a2 b0 b1 b2 b3 j0 j1 j2 j3 j4 j5
    obtain ⟨W9, hW9⟩ : ∃ x, x = w1.alloc (.cells #[.slice A l2.length c, .int .i64 at2, .int .i64 f2] 49) := ⟨_, rfl⟩
    rw [← hW9] at N9 ⊢
    clear hW9
    obtain ⟨_, _, ⟨j0, j1, j2⟩, j3, j4, j5⟩ := N9.out.tri.cells
    obtain ⟨n0, n1, n2⟩ := N9.out.cells
    simp only at n0 n1 n2
    go_wp2
    go_region
    go_wp2
    change bodyPost _ _ _ _ _ (set3 W9 (w.heap.size + 1 + 1) _ _ _).drew
    obtain ⟨hb2, e0, e1, e2⟩ := (N9.out.tri).close (.slice A l2.length c) (.int .i64 at2) (.int .i64 f2)
    exact bodyPost_ret (v := .tuple #[.int .u64 n, .slice none 0 0, rv A c ⟨l2, at2, f2⟩]) (by simp [results, Try.results39, go_sem, e0, e1, e2, rv]) rfl ⟨none, 0, by first | (rw [HE.out]; done) | (rw [HE.out]; rfl), by rw [HE.out]; exact (fun _ _ => Reads.none_), hb2.drew, by rw [HE.out]; exact hle⟩
  · change Exit.then _ _ _ _ (set3 w1 W0.heap.size _ _ _)
    have N9 := Lib.hid (Nxt.ahead T0.out B1.out ⟨l2, at2, f2⟩ KX.out)
    have HE := Lib.hid (show Rd.call ⟨l, at_, f⟩ ⟨1, low, high, most⟩ = (((n : Int), []), ⟨l2, at2, f2⟩) from by unfold Rd.call; simp only [Int.reduceEq, if_false, if_true]; try rw [← HX.out])
    clear x0 x1 x2 y0 y1 y2 y3 z0 z1 z2 z3 z4 z5 a0 a1 a2 b0 b1 b2 b3 j0 j1 j2 j3 j4 j5
    obtain ⟨W9, hW9⟩ : ∃ x, x = set3 w1 W0.heap.size (.slice A l2.length c) (.int .i64 at2) (.int .i64 f2) := ⟨_, rfl⟩
    rw [← hW9] at N9 ⊢
    clear hW9
    obtain ⟨_, _, ⟨j0, j1, j2⟩, j3, j4, j5⟩ := N9.out.tri.cells
    obtain ⟨n0, n1, n2⟩ := N9.out.cells
    simp only at n0 n1 n2
    go_wp2
    go_region
    go_wp2
    change bodyPost _ _ _ _ _ (set3 W9 (w.heap.size + 1 + 1) _ _ _).drew
    obtain ⟨hb2, e0, e1, e2⟩ := (N9.out.tri).close (.slice A l2.length c) (.int .i64 at2) (.int .i64 f2)
    exact bodyPost_ret (v := .tuple #[.int .u64 n, .slice none 0 0, rv A c ⟨l2, at2, f2⟩]) (by simp [results, Try.results39, go_sem, e0, e1, e2, rv]) rfl ⟨none, 0, by first | (rw [HE.out]; done) | (rw [HE.out]; rfl), by rw [HE.out]; exact (fun _ _ => Reads.none_), hb2.drew, by rw [HE.out]; exact hle⟩
set_option maxRecDepth 100000 in
theorem told2_any {w : World} {A : Option Addr} {c : Nat} {l : List UInt8} {at_ : Nat} {f : Int} (hr : RvOk w A c ⟨l, at_, f⟩) (low high most : Int) :
    Calls Try.prog 39 #[.agg #[.slice A l.length c, .int .i64 at_, .int .i64 f], .agg #[.int .i64 2, .int .i64 low, .int .i64 high, .int .i64 most]] w (ToldPost w A c (Rd.call ⟨l, at_, f⟩ ⟨2, low, high, most⟩)) := by
  have H := Lib.hid hr
  clear hr
  go_enter Try.func39, Try.ntmps39
  go_wp2_with fail
  obtain ⟨W0, hW0⟩ : ∃ x, x = ((w.alloc (.cells #[.slice A l.length c, .int .i64 at_, .int .i64 f] 49)).alloc (.cells #[.int .i64 2, .int .i64 low, .int .i64 high, .int .i64 most] 54)).alloc (.cells #[.slice none 0 0, .int .i64 0, .int .i64 0] 49) := ⟨_, rfl⟩
  have T0 := Lib.hid (show Tri w W0 A c ⟨l, at_, f⟩ ⟨2, low, high, most⟩ from by rw [hW0]; exact Tri.start w A c ⟨l, at_, f⟩ ⟨2, low, high, most⟩)
  rw [← hW0]
  clear hW0
  have RV := Lib.hid (H.out.below T0.out.below)
  obtain ⟨⟨a0, a1, a2⟩, ⟨b0, b1, b2, b3⟩, ⟨j0, j1, j2⟩, j3, j4, j5⟩ := T0.out.cells
  simp only at a0 a1 a2 b0 b1 b2 b3
  have hn0 : w.heap.size ≠ W0.heap.size := by have := T0.out.res.lt; omega
  have hn1 : w.heap.size + 1 ≠ W0.heap.size := by have := T0.out.res.lt; omega
  go_region_held3 (fun w' => w'.cell? ⟨w.heap.size, 0, none⟩ = some (.slice A l.length c) ∧ w'.cell? ⟨w.heap.size, 1, none⟩ = some (.int .i64 at_) ∧ w'.cell? ⟨w.heap.size, 2, none⟩ = some (.int .i64 f) ∧ w'.cell? ⟨w.heap.size + 1, 0, none⟩ = some (.int .i64 2)) (first | (exact ⟨x0, x1, x2, y0⟩) | go_keep | (exact ⟨set3_far hn0 x0, set3_far hn0 x1, set3_far hn0 x2, set3_far hn1 y0⟩)) (first | (go_at_call 64; refine (refTake_any (A := A) (c := c) (r := ⟨l, at_, f⟩) (RV.out.below (by first | exact (Below.refl _ _).drew | exact ((Below.refl _ _).drew).alloc (Nat.le_refl _) _ | exact ((Below.refl _ _).alloc (Nat.le_refl _) _).drew)) 4 (by decide)).mono ?_; obtain ⟨x, hx⟩ : ∃ x, x = Rd.take ⟨l, at_, f⟩ 4 := ⟨_, rfl⟩; rw [← hx]; obtain ⟨n, ⟨l2, at2, f2⟩⟩ := x; rintro e w1 ⟨rfl, hb, hle⟩; unfold rv; simp only at hle; have HX := Lib.hid hx; clear hx; have B1 := Lib.hid (show Below W0.heap.size W0 w1 from by first | exact ⟨hb.os, hb.tape, hb.output, hb.size, hb.block⟩ | exact below_alloc1 ⟨hb.os, hb.tape, hb.output, hb.size, hb.block⟩); obtain ⟨⟨x0, x1, x2⟩, ⟨y0, y1, y2, y3⟩, _⟩ := (T0.out.go B1.out).cells; try (have Kx : Blk w1 W0.heap.size 49 #[.slice none 0 0, .int .i64 0, .int .i64 0] := Blk.below' (Blk.new W0.drew 49 #[.slice none 0 0, .int .i64 0, .int .i64 0]) hb; have z0 := Kx.cell 0; have z1 := Kx.cell 1; have z2 := Kx.cell 2; have z3 := Kx.frozen 0; have z4 := Kx.frozen 1; have z5 := Kx.frozen 2; simp at z0 z1 z2; have KX := Lib.hid Kx; clear Kx)))
  · have N9 := Lib.hid (Nxt.after T0.out B1.out ⟨l2, at2, f2⟩)
    have HE := Lib.hid (show Rd.call ⟨l, at_, f⟩ ⟨2, low, high, most⟩ = (((n : Int), []), ⟨l2, at2, f2⟩) from by unfold Rd.call; simp only [Int.reduceEq, if_false, if_true]; try rw [← HX.out])
    clear x0 x1 x2 y0 y1 y2 y3 a0 a1 a2 b0 b1 b2 b3 j0 j1 j2 j3 j4 j5
    obtain ⟨W9, hW9⟩ : ∃ x, x = w1.alloc (.cells #[.slice A l2.length c, .int .i64 at2, .int .i64 f2] 49) := ⟨_, rfl⟩
    rw [← hW9] at N9 ⊢
    clear hW9
    obtain ⟨_, _, ⟨j0, j1, j2⟩, j3, j4, j5⟩ := N9.out.tri.cells
    obtain ⟨n0, n1, n2⟩ := N9.out.cells
    simp only at n0 n1 n2
    go_wp2
    go_region
    go_wp2
    change bodyPost _ _ _ _ _ (set3 W9 (w.heap.size + 1 + 1) _ _ _).drew
    obtain ⟨hb2, e0, e1, e2⟩ := (N9.out.tri).close (.slice A l2.length c) (.int .i64 at2) (.int .i64 f2)
    exact bodyPost_ret (v := .tuple #[.int .u64 n, .slice none 0 0, rv A c ⟨l2, at2, f2⟩]) (by simp [results, Try.results39, go_sem, e0, e1, e2, rv]) rfl ⟨none, 0, by first | (rw [HE.out]; done) | (rw [HE.out]; rfl), by rw [HE.out]; exact (fun _ _ => Reads.none_), hb2.drew, by rw [HE.out]; exact hle⟩
  · change Exit.then _ _ _ _ (set3 w1 W0.heap.size _ _ _)
    have N9 := Lib.hid (Nxt.ahead T0.out B1.out ⟨l2, at2, f2⟩ KX.out)
    have HE := Lib.hid (show Rd.call ⟨l, at_, f⟩ ⟨2, low, high, most⟩ = (((n : Int), []), ⟨l2, at2, f2⟩) from by unfold Rd.call; simp only [Int.reduceEq, if_false, if_true]; try rw [← HX.out])
    clear x0 x1 x2 y0 y1 y2 y3 z0 z1 z2 z3 z4 z5 a0 a1 a2 b0 b1 b2 b3 j0 j1 j2 j3 j4 j5
    obtain ⟨W9, hW9⟩ : ∃ x, x = set3 w1 W0.heap.size (.slice A l2.length c) (.int .i64 at2) (.int .i64 f2) := ⟨_, rfl⟩
    rw [← hW9] at N9 ⊢
    clear hW9
    obtain ⟨_, _, ⟨j0, j1, j2⟩, j3, j4, j5⟩ := N9.out.tri.cells
    obtain ⟨n0, n1, n2⟩ := N9.out.cells
    simp only at n0 n1 n2
    go_wp2
    go_region
    go_wp2
    change bodyPost _ _ _ _ _ (set3 W9 (w.heap.size + 1 + 1) _ _ _).drew
    obtain ⟨hb2, e0, e1, e2⟩ := (N9.out.tri).close (.slice A l2.length c) (.int .i64 at2) (.int .i64 f2)
    exact bodyPost_ret (v := .tuple #[.int .u64 n, .slice none 0 0, rv A c ⟨l2, at2, f2⟩]) (by simp [results, Try.results39, go_sem, e0, e1, e2, rv]) rfl ⟨none, 0, by first | (rw [HE.out]; done) | (rw [HE.out]; rfl), by rw [HE.out]; exact (fun _ _ => Reads.none_), hb2.drew, by rw [HE.out]; exact hle⟩
set_option maxRecDepth 100000 in
theorem told3_any {w : World} {A : Option Addr} {c : Nat} {l : List UInt8} {at_ : Nat} {f : Int} (hr : RvOk w A c ⟨l, at_, f⟩) (low high most : Int) :
    Calls Try.prog 39 #[.agg #[.slice A l.length c, .int .i64 at_, .int .i64 f], .agg #[.int .i64 3, .int .i64 low, .int .i64 high, .int .i64 most]] w (ToldPost w A c (Rd.call ⟨l, at_, f⟩ ⟨3, low, high, most⟩)) := by
  have H := Lib.hid hr
  clear hr
  go_enter Try.func39, Try.ntmps39
  go_wp2_with fail
  obtain ⟨W0, hW0⟩ : ∃ x, x = ((w.alloc (.cells #[.slice A l.length c, .int .i64 at_, .int .i64 f] 49)).alloc (.cells #[.int .i64 3, .int .i64 low, .int .i64 high, .int .i64 most] 54)).alloc (.cells #[.slice none 0 0, .int .i64 0, .int .i64 0] 49) := ⟨_, rfl⟩
  have T0 := Lib.hid (show Tri w W0 A c ⟨l, at_, f⟩ ⟨3, low, high, most⟩ from by rw [hW0]; exact Tri.start w A c ⟨l, at_, f⟩ ⟨3, low, high, most⟩)
  rw [← hW0]
  clear hW0
  have RV := Lib.hid (H.out.below T0.out.below)
  obtain ⟨⟨a0, a1, a2⟩, ⟨b0, b1, b2, b3⟩, ⟨j0, j1, j2⟩, j3, j4, j5⟩ := T0.out.cells
  simp only at a0 a1 a2 b0 b1 b2 b3
  have hn0 : w.heap.size ≠ W0.heap.size := by have := T0.out.res.lt; omega
  have hn1 : w.heap.size + 1 ≠ W0.heap.size := by have := T0.out.res.lt; omega
  go_region_held3 (fun w' => w'.cell? ⟨w.heap.size, 0, none⟩ = some (.slice A l.length c) ∧ w'.cell? ⟨w.heap.size, 1, none⟩ = some (.int .i64 at_) ∧ w'.cell? ⟨w.heap.size, 2, none⟩ = some (.int .i64 f) ∧ w'.cell? ⟨w.heap.size + 1, 0, none⟩ = some (.int .i64 3)) (first | (exact ⟨x0, x1, x2, y0⟩) | go_keep | (exact ⟨set3_far hn0 x0, set3_far hn0 x1, set3_far hn0 x2, set3_far hn1 y0⟩)) (first | (go_at_call 64; refine (refTake_any (A := A) (c := c) (r := ⟨l, at_, f⟩) (RV.out.below (by first | exact (Below.refl _ _).drew | exact ((Below.refl _ _).drew).alloc (Nat.le_refl _) _ | exact ((Below.refl _ _).alloc (Nat.le_refl _) _).drew)) 8 (by decide)).mono ?_; obtain ⟨x, hx⟩ : ∃ x, x = Rd.take ⟨l, at_, f⟩ 8 := ⟨_, rfl⟩; rw [← hx]; obtain ⟨n, ⟨l2, at2, f2⟩⟩ := x; rintro e w1 ⟨rfl, hb, hle⟩; unfold rv; simp only at hle; have HX := Lib.hid hx; clear hx; have B1 := Lib.hid (show Below W0.heap.size W0 w1 from by first | exact ⟨hb.os, hb.tape, hb.output, hb.size, hb.block⟩ | exact below_alloc1 ⟨hb.os, hb.tape, hb.output, hb.size, hb.block⟩); obtain ⟨⟨x0, x1, x2⟩, ⟨y0, y1, y2, y3⟩, _⟩ := (T0.out.go B1.out).cells; try (have Kx : Blk w1 W0.heap.size 49 #[.slice none 0 0, .int .i64 0, .int .i64 0] := Blk.below' (Blk.new W0.drew 49 #[.slice none 0 0, .int .i64 0, .int .i64 0]) hb; have z0 := Kx.cell 0; have z1 := Kx.cell 1; have z2 := Kx.cell 2; have z3 := Kx.frozen 0; have z4 := Kx.frozen 1; have z5 := Kx.frozen 2; simp at z0 z1 z2; have KX := Lib.hid Kx; clear Kx)))
  · have N9 := Lib.hid (Nxt.after T0.out B1.out ⟨l2, at2, f2⟩)
    have HE := Lib.hid (show Rd.call ⟨l, at_, f⟩ ⟨3, low, high, most⟩ = (((n : Int), []), ⟨l2, at2, f2⟩) from by unfold Rd.call; simp only [Int.reduceEq, if_false, if_true]; try rw [← HX.out])
    clear x0 x1 x2 y0 y1 y2 y3 a0 a1 a2 b0 b1 b2 b3 j0 j1 j2 j3 j4 j5
    obtain ⟨W9, hW9⟩ : ∃ x, x = w1.alloc (.cells #[.slice A l2.length c, .int .i64 at2, .int .i64 f2] 49) := ⟨_, rfl⟩
    rw [← hW9] at N9 ⊢
    clear hW9
    obtain ⟨_, _, ⟨j0, j1, j2⟩, j3, j4, j5⟩ := N9.out.tri.cells
    obtain ⟨n0, n1, n2⟩ := N9.out.cells
    simp only at n0 n1 n2
    go_wp2
    go_region
    go_wp2
    change bodyPost _ _ _ _ _ (set3 W9 (w.heap.size + 1 + 1) _ _ _).drew
    obtain ⟨hb2, e0, e1, e2⟩ := (N9.out.tri).close (.slice A l2.length c) (.int .i64 at2) (.int .i64 f2)
    exact bodyPost_ret (v := .tuple #[.int .u64 n, .slice none 0 0, rv A c ⟨l2, at2, f2⟩]) (by simp [results, Try.results39, go_sem, e0, e1, e2, rv]) rfl ⟨none, 0, by first | (rw [HE.out]; done) | (rw [HE.out]; rfl), by rw [HE.out]; exact (fun _ _ => Reads.none_), hb2.drew, by rw [HE.out]; exact hle⟩
  · change Exit.then _ _ _ _ (set3 w1 W0.heap.size _ _ _)
    have N9 := Lib.hid (Nxt.ahead T0.out B1.out ⟨l2, at2, f2⟩ KX.out)
    have HE := Lib.hid (show Rd.call ⟨l, at_, f⟩ ⟨3, low, high, most⟩ = (((n : Int), []), ⟨l2, at2, f2⟩) from by unfold Rd.call; simp only [Int.reduceEq, if_false, if_true]; try rw [← HX.out])
    clear x0 x1 x2 y0 y1 y2 y3 z0 z1 z2 z3 z4 z5 a0 a1 a2 b0 b1 b2 b3 j0 j1 j2 j3 j4 j5
    obtain ⟨W9, hW9⟩ : ∃ x, x = set3 w1 W0.heap.size (.slice A l2.length c) (.int .i64 at2) (.int .i64 f2) := ⟨_, rfl⟩
    rw [← hW9] at N9 ⊢
    clear hW9
    obtain ⟨_, _, ⟨j0, j1, j2⟩, j3, j4, j5⟩ := N9.out.tri.cells
    obtain ⟨n0, n1, n2⟩ := N9.out.cells
    simp only at n0 n1 n2
    go_wp2
    go_region
    go_wp2
    change bodyPost _ _ _ _ _ (set3 W9 (w.heap.size + 1 + 1) _ _ _).drew
    obtain ⟨hb2, e0, e1, e2⟩ := (N9.out.tri).close (.slice A l2.length c) (.int .i64 at2) (.int .i64 f2)
    exact bodyPost_ret (v := .tuple #[.int .u64 n, .slice none 0 0, rv A c ⟨l2, at2, f2⟩]) (by simp [results, Try.results39, go_sem, e0, e1, e2, rv]) rfl ⟨none, 0, by first | (rw [HE.out]; done) | (rw [HE.out]; rfl), by rw [HE.out]; exact (fun _ _ => Reads.none_), hb2.drew, by rw [HE.out]; exact hle⟩
set_option maxRecDepth 100000 in
theorem told4_any {w : World} {A : Option Addr} {c : Nat} {l : List UInt8} {at_ : Nat} {f : Int} (hr : RvOk w A c ⟨l, at_, f⟩) (low high most : Int) :
    Calls Try.prog 39 #[.agg #[.slice A l.length c, .int .i64 at_, .int .i64 f], .agg #[.int .i64 4, .int .i64 low, .int .i64 high, .int .i64 most]] w (ToldPost w A c (Rd.call ⟨l, at_, f⟩ ⟨4, low, high, most⟩)) := by
  have H := Lib.hid hr
  clear hr
  go_enter Try.func39, Try.ntmps39
  go_wp2_with fail
  obtain ⟨W0, hW0⟩ : ∃ x, x = ((w.alloc (.cells #[.slice A l.length c, .int .i64 at_, .int .i64 f] 49)).alloc (.cells #[.int .i64 4, .int .i64 low, .int .i64 high, .int .i64 most] 54)).alloc (.cells #[.slice none 0 0, .int .i64 0, .int .i64 0] 49) := ⟨_, rfl⟩
  have T0 := Lib.hid (show Tri w W0 A c ⟨l, at_, f⟩ ⟨4, low, high, most⟩ from by rw [hW0]; exact Tri.start w A c ⟨l, at_, f⟩ ⟨4, low, high, most⟩)
  rw [← hW0]
  clear hW0
  have RV := Lib.hid (H.out.below T0.out.below)
  obtain ⟨⟨a0, a1, a2⟩, ⟨b0, b1, b2, b3⟩, ⟨j0, j1, j2⟩, j3, j4, j5⟩ := T0.out.cells
  simp only at a0 a1 a2 b0 b1 b2 b3
  have hn0 : w.heap.size ≠ W0.heap.size := by have := T0.out.res.lt; omega
  have hn1 : w.heap.size + 1 ≠ W0.heap.size := by have := T0.out.res.lt; omega
  refine (refInt_any (A := A) (c := c) (r := ⟨l, at_, f⟩) RV.out low high).mono ?_
  obtain ⟨x, hx⟩ : ∃ x, x = Rd.int ⟨l, at_, f⟩ low high := ⟨_, rfl⟩
  rw [← hx]
  obtain ⟨n, ⟨l2, at2, f2⟩⟩ := x
  rintro e w1 ⟨rfl, hb, hle⟩
  unfold rv
  simp only at hle
  have HX := Lib.hid hx
  clear hx
  have B1 := Lib.hid hb
  clear hb
  clear a0 a1 a2 b0 b1 b2 b3 j0 j1 j2 j3 j4 j5
  have N9 := Lib.hid (Nxt.after T0.out B1.out ⟨l2, at2, f2⟩)
  have HE := Lib.hid (show Rd.call ⟨l, at_, f⟩ ⟨4, low, high, most⟩ = ((IntKind.u64.wrap n, []), ⟨l2, at2, f2⟩) from by unfold Rd.call; simp only [Int.reduceEq, if_false, if_true]; try rw [← HX.out])
  have N8 := N9
  obtain ⟨_, _, ⟨j0, j1, j2⟩, j3, j4, j5⟩ := N9.out.tri.cells
  obtain ⟨n0, n1, n2⟩ := N9.out.cells
  simp only at n0 n1 n2
  go_wp2
  go_region
  go_wp2
  change bodyPost _ _ _ _ _ (set3 (w1.alloc (.cells #[.slice A l2.length c, .int .i64 at2, .int .i64 f2] 49)) (w.heap.size + 1 + 1) _ _ _).drew
  obtain ⟨hb2, e0, e1, e2⟩ := (N9.out.tri).close (.slice A l2.length c) (.int .i64 at2) (.int .i64 f2)
  exact bodyPost_ret (v := .tuple #[.int .u64 (IntKind.u64.wrap n), .slice none 0 0, rv A c ⟨l2, at2, f2⟩]) (by simp [results, Try.results39, go_sem, e0, e1, e2, rv]) rfl ⟨none, 0, by first | (rw [HE.out]; done) | (rw [HE.out]; rfl), by rw [HE.out]; exact (fun _ _ => Reads.none_), hb2.drew, by rw [HE.out]; exact hle⟩
set_option maxRecDepth 100000 in
theorem told5_any {w : World} {A : Option Addr} {c : Nat} {l : List UInt8} {at_ : Nat} {f : Int} (hr : RvOk w A c ⟨l, at_, f⟩) (low high most : Int) :
    Calls Try.prog 39 #[.agg #[.slice A l.length c, .int .i64 at_, .int .i64 f], .agg #[.int .i64 5, .int .i64 low, .int .i64 high, .int .i64 most]] w (ToldPost w A c (Rd.call ⟨l, at_, f⟩ ⟨5, low, high, most⟩)) := by
  have H := Lib.hid hr
  clear hr
  go_enter Try.func39, Try.ntmps39
  go_wp2_with fail
  obtain ⟨W0, hW0⟩ : ∃ x, x = ((w.alloc (.cells #[.slice A l.length c, .int .i64 at_, .int .i64 f] 49)).alloc (.cells #[.int .i64 5, .int .i64 low, .int .i64 high, .int .i64 most] 54)).alloc (.cells #[.slice none 0 0, .int .i64 0, .int .i64 0] 49) := ⟨_, rfl⟩
  have T0 := Lib.hid (show Tri w W0 A c ⟨l, at_, f⟩ ⟨5, low, high, most⟩ from by rw [hW0]; exact Tri.start w A c ⟨l, at_, f⟩ ⟨5, low, high, most⟩)
  rw [← hW0]
  clear hW0
  have RV := Lib.hid (H.out.below T0.out.below)
  obtain ⟨⟨a0, a1, a2⟩, ⟨b0, b1, b2, b3⟩, ⟨j0, j1, j2⟩, j3, j4, j5⟩ := T0.out.cells
  simp only at a0 a1 a2 b0 b1 b2 b3
  have hn0 : w.heap.size ≠ W0.heap.size := by have := T0.out.res.lt; omega
  have hn1 : w.heap.size + 1 ≠ W0.heap.size := by have := T0.out.res.lt; omega
  refine (refBytes_any (A := A) (c := c) (r := ⟨l, at_, f⟩) RV.out most).mono ?_
  obtain ⟨x, hx⟩ : ∃ x, x = Rd.bytes ⟨l, at_, f⟩ most := ⟨_, rfl⟩
  rw [← hx]
  obtain ⟨p, ⟨l2, at2, f2⟩⟩ := x
  rintro e w1 ⟨v, rfl, ho, hb, hle⟩
  obtain ⟨A2, c2, rfl, _, _⟩ := ho.slice
  unfold rv
  simp only at hle ho
  have HX := Lib.hid hx
  clear hx
  have B1 := Lib.hid hb
  have O1 := Lib.hid ho
  clear hb ho
  clear a0 a1 a2 b0 b1 b2 b3 j0 j1 j2 j3 j4 j5
  have N9 := Lib.hid (Nxt.after T0.out B1.out ⟨l2, at2, f2⟩)
  have HE := Lib.hid (show Rd.call ⟨l, at_, f⟩ ⟨5, low, high, most⟩ = ((0, p), ⟨l2, at2, f2⟩) from by unfold Rd.call; simp only [Int.reduceEq, if_false, if_true]; try rw [← HX.out])
  have O2 := Lib.hid ((O1.out.below ((Below.refl _ _).alloc (Nat.le_refl _) (.cells #[.slice A l2.length c, .int .i64 at2, .int .i64 f2] 49))).set3 N9.out.tri.res (by decide) (.slice A l2.length c) (.int .i64 at2) (.int .i64 f2))
  obtain ⟨_, _, ⟨j0, j1, j2⟩, j3, j4, j5⟩ := N9.out.tri.cells
  obtain ⟨n0, n1, n2⟩ := N9.out.cells
  simp only at n0 n1 n2
  go_wp2
  go_region
  go_wp2
  change bodyPost _ _ _ _ _ (set3 (w1.alloc (.cells #[.slice A l2.length c, .int .i64 at2, .int .i64 f2] 49)) (w.heap.size + 1 + 1) _ _ _).drew
  obtain ⟨hb2, e0, e1, e2⟩ := (N9.out.tri).close (.slice A l2.length c) (.int .i64 at2) (.int .i64 f2)
  exact bodyPost_ret (v := .tuple #[.int .u64 0, .slice A2 p.length c2, rv A c ⟨l2, at2, f2⟩]) (by simp [results, Try.results39, go_sem, e0, e1, e2, rv]) rfl ⟨A2, c2, by first | (rw [HE.out]; done) | (rw [HE.out]; rfl), by rw [HE.out]; exact (fun _ hk => BReads.of_owns (BOwns.keeps (S := fun k => k < w.heap.size) O2.out ⟨hk.os, hk.tape, hk.output, hk.size, hk.block⟩ (fun i hi h => by have := T0.out.below.size; omega))), hb2.drew, by rw [HE.out]; exact hle⟩
set_option maxRecDepth 100000 in
theorem told6_any {w : World} {A : Option Addr} {c : Nat} {l : List UInt8} {at_ : Nat} {f : Int} (hr : RvOk w A c ⟨l, at_, f⟩) (low high most : Int) :
    Calls Try.prog 39 #[.agg #[.slice A l.length c, .int .i64 at_, .int .i64 f], .agg #[.int .i64 6, .int .i64 low, .int .i64 high, .int .i64 most]] w (ToldPost w A c (Rd.call ⟨l, at_, f⟩ ⟨6, low, high, most⟩)) := by
  have H := Lib.hid hr
  clear hr
  go_enter Try.func39, Try.ntmps39
  go_wp2_with fail
  obtain ⟨W0, hW0⟩ : ∃ x, x = ((w.alloc (.cells #[.slice A l.length c, .int .i64 at_, .int .i64 f] 49)).alloc (.cells #[.int .i64 6, .int .i64 low, .int .i64 high, .int .i64 most] 54)).alloc (.cells #[.slice none 0 0, .int .i64 0, .int .i64 0] 49) := ⟨_, rfl⟩
  have T0 := Lib.hid (show Tri w W0 A c ⟨l, at_, f⟩ ⟨6, low, high, most⟩ from by rw [hW0]; exact Tri.start w A c ⟨l, at_, f⟩ ⟨6, low, high, most⟩)
  rw [← hW0]
  clear hW0
  have RV := Lib.hid (H.out.below T0.out.below)
  obtain ⟨⟨a0, a1, a2⟩, ⟨b0, b1, b2, b3⟩, ⟨j0, j1, j2⟩, j3, j4, j5⟩ := T0.out.cells
  simp only at a0 a1 a2 b0 b1 b2 b3
  have hn0 : w.heap.size ≠ W0.heap.size := by have := T0.out.res.lt; omega
  have hn1 : w.heap.size + 1 ≠ W0.heap.size := by have := T0.out.res.lt; omega
  refine (refBytes_any (A := A) (c := c) (r := ⟨l, at_, f⟩) RV.out most).mono ?_
  obtain ⟨x, hx⟩ : ∃ x, x = Rd.bytes ⟨l, at_, f⟩ most := ⟨_, rfl⟩
  rw [← hx]
  obtain ⟨p, ⟨l2, at2, f2⟩⟩ := x
  rintro e w1 ⟨v, rfl, ho, hb, hle⟩
  obtain ⟨A2, c2, rfl, _, _⟩ := ho.slice
  unfold rv
  simp only at hle ho
  have HX := Lib.hid hx
  clear hx
  have B1 := Lib.hid hb
  have O1 := Lib.hid ho
  clear hb ho
  clear a0 a1 a2 b0 b1 b2 b3 j0 j1 j2 j3 j4 j5
  have N9 := Lib.hid (Nxt.after T0.out B1.out ⟨l2, at2, f2⟩)
  have HE := Lib.hid (show Rd.call ⟨l, at_, f⟩ ⟨6, low, high, most⟩ = ((0, p), ⟨l2, at2, f2⟩) from by unfold Rd.call; simp only [Int.reduceEq, if_false, if_true]; try rw [← HX.out])
  have O2 := Lib.hid ((O1.out.below ((Below.refl _ _).alloc (Nat.le_refl _) (.cells #[.slice A l2.length c, .int .i64 at2, .int .i64 f2] 49))).set3 N9.out.tri.res (by decide) (.slice A l2.length c) (.int .i64 at2) (.int .i64 f2))
  obtain ⟨_, _, ⟨j0, j1, j2⟩, j3, j4, j5⟩ := N9.out.tri.cells
  obtain ⟨n0, n1, n2⟩ := N9.out.cells
  simp only at n0 n1 n2
  go_wp2
  go_region
  go_wp2
  change bodyPost _ _ _ _ _ (set3 (w1.alloc (.cells #[.slice A l2.length c, .int .i64 at2, .int .i64 f2] 49)) (w.heap.size + 1 + 1) _ _ _).drew
  obtain ⟨hb2, e0, e1, e2⟩ := (N9.out.tri).close (.slice A l2.length c) (.int .i64 at2) (.int .i64 f2)
  exact bodyPost_ret (v := .tuple #[.int .u64 0, .slice A2 p.length c2, rv A c ⟨l2, at2, f2⟩]) (by simp [results, Try.results39, go_sem, e0, e1, e2, rv]) rfl ⟨A2, c2, by first | (rw [HE.out]; done) | (rw [HE.out]; rfl), by rw [HE.out]; exact (fun _ hk => BReads.of_owns (BOwns.keeps (S := fun k => k < w.heap.size) O2.out ⟨hk.os, hk.tape, hk.output, hk.size, hk.block⟩ (fun i hi h => by have := T0.out.below.size; omega))), hb2.drew, by rw [HE.out]; exact hle⟩
set_option maxRecDepth 100000 in
theorem told7_any {w : World} {A : Option Addr} {c : Nat} {l : List UInt8} {at_ : Nat} {f : Int} (hr : RvOk w A c ⟨l, at_, f⟩) (low high most : Int) :
    Calls Try.prog 39 #[.agg #[.slice A l.length c, .int .i64 at_, .int .i64 f], .agg #[.int .i64 7, .int .i64 low, .int .i64 high, .int .i64 most]] w (ToldPost w A c (Rd.call ⟨l, at_, f⟩ ⟨7, low, high, most⟩)) := by
  have H := Lib.hid hr
  clear hr
  go_enter Try.func39, Try.ntmps39
  go_wp2_with fail
  obtain ⟨W0, hW0⟩ : ∃ x, x = ((w.alloc (.cells #[.slice A l.length c, .int .i64 at_, .int .i64 f] 49)).alloc (.cells #[.int .i64 7, .int .i64 low, .int .i64 high, .int .i64 most] 54)).alloc (.cells #[.slice none 0 0, .int .i64 0, .int .i64 0] 49) := ⟨_, rfl⟩
  have T0 := Lib.hid (show Tri w W0 A c ⟨l, at_, f⟩ ⟨7, low, high, most⟩ from by rw [hW0]; exact Tri.start w A c ⟨l, at_, f⟩ ⟨7, low, high, most⟩)
  rw [← hW0]
  clear hW0
  have RV := Lib.hid (H.out.below T0.out.below)
  obtain ⟨⟨a0, a1, a2⟩, ⟨b0, b1, b2, b3⟩, ⟨j0, j1, j2⟩, j3, j4, j5⟩ := T0.out.cells
  simp only at a0 a1 a2 b0 b1 b2 b3
  have hn0 : w.heap.size ≠ W0.heap.size := by have := T0.out.res.lt; omega
  have hn1 : w.heap.size + 1 ≠ W0.heap.size := by have := T0.out.res.lt; omega
  have hm : w.heap.size ≠ w.heap.size + 1 + 1 := by omega
  have HLE := Lib.hid H.out.le
  go_region_held3 (fun w' => w'.cell? ⟨w.heap.size, 0, none⟩ = some (.slice A l.length c) ∧ w'.cell? ⟨w.heap.size, 1, none⟩ = some (.int .i64 at_) ∧ w'.cell? ⟨w.heap.size, 2, none⟩ = some (.int .i64 f)) (first | (exact ⟨x0, x1, x2⟩) | go_keep | (exact ⟨set3_far hm x0, set3_far hm x1, set3_far hm x2⟩)) (first | (go_at_call 43; refine (refLeft_any (A := A) (c := c) (r := ⟨l, at_, f⟩) (RV.out.below (Below.refl _ _).drew)).mono ?_; obtain ⟨n, hn⟩ : ∃ n, n = Rd.left ⟨l, at_, f⟩ := ⟨_, rfl⟩; rw [← hn]; rintro e w1 ⟨rfl, hb⟩; have HX := Lib.hid hn; clear hn; have B1 := Lib.hid (show Below W0.heap.size W0 w1 from ⟨hb.os, hb.tape, hb.output, hb.size, hb.block⟩); obtain ⟨⟨x0, x1, x2⟩, ⟨y0, y1, y2, y3⟩, ⟨j0, j1, j2⟩, j3, j4, j5⟩ := (T0.out.go B1.out).cells))
  have HE := Lib.hid (show Rd.call ⟨l, at_, f⟩ ⟨7, low, high, most⟩ = ((IntKind.u64.wrap n, []), ⟨l, at_, f⟩) from by unfold Rd.call; simp only [Int.reduceEq, if_false, if_true]; try rw [← HX.out])
  go_wp2
  change bodyPost _ _ _ _ _ (set3 w1 (w.heap.size + 1 + 1) _ _ _)
  obtain ⟨hb2, e0, e1, e2⟩ := (T0.out.go B1.out).close (.slice A l.length c) (.int .i64 at_) (.int .i64 f)
  exact bodyPost_ret (v := .tuple #[.int .u64 (IntKind.u64.wrap n), .slice none 0 0, rv A c ⟨l, at_, f⟩]) (by simp [results, Try.results39, go_sem, e0, e1, e2, rv]) rfl ⟨none, 0, by first | (rw [HE.out]; done) | (rw [HE.out]; rfl), by rw [HE.out]; exact (fun _ _ => Reads.none_), hb2, by rw [HE.out]; exact HLE.out⟩
set_option maxRecDepth 100000 in
theorem told8_any {w : World} {A : Option Addr} {c : Nat} {l : List UInt8} {at_ : Nat} {f : Int} (hr : RvOk w A c ⟨l, at_, f⟩) (low high most : Int) :
    Calls Try.prog 39 #[.agg #[.slice A l.length c, .int .i64 at_, .int .i64 f], .agg #[.int .i64 8, .int .i64 low, .int .i64 high, .int .i64 most]] w (ToldPost w A c (Rd.call ⟨l, at_, f⟩ ⟨8, low, high, most⟩)) := by
  have H := Lib.hid hr
  clear hr
  go_enter Try.func39, Try.ntmps39
  go_wp2_with fail
  obtain ⟨W0, hW0⟩ : ∃ x, x = ((w.alloc (.cells #[.slice A l.length c, .int .i64 at_, .int .i64 f] 49)).alloc (.cells #[.int .i64 8, .int .i64 low, .int .i64 high, .int .i64 most] 54)).alloc (.cells #[.slice none 0 0, .int .i64 0, .int .i64 0] 49) := ⟨_, rfl⟩
  have T0 := Lib.hid (show Tri w W0 A c ⟨l, at_, f⟩ ⟨8, low, high, most⟩ from by rw [hW0]; exact Tri.start w A c ⟨l, at_, f⟩ ⟨8, low, high, most⟩)
  rw [← hW0]
  clear hW0
  have RV := Lib.hid (H.out.below T0.out.below)
  obtain ⟨⟨a0, a1, a2⟩, ⟨b0, b1, b2, b3⟩, ⟨j0, j1, j2⟩, j3, j4, j5⟩ := T0.out.cells
  simp only at a0 a1 a2 b0 b1 b2 b3
  have hn0 : w.heap.size ≠ W0.heap.size := by have := T0.out.res.lt; omega
  have hn1 : w.heap.size + 1 ≠ W0.heap.size := by have := T0.out.res.lt; omega
  have HLE := Lib.hid H.out.le
  have HE := Lib.hid (show Rd.call ⟨l, at_, f⟩ ⟨8, low, high, most⟩ = ((IntKind.u64.wrap f, []), ⟨l, at_, f⟩) from by unfold Rd.call; simp only [Int.reduceEq, if_false, if_true]; try rw [← HX.out])
  go_region
  go_wp2
  change bodyPost _ _ _ _ _ (set3 W0 (w.heap.size + 1 + 1) _ _ _).drew
  obtain ⟨hb2, e0, e1, e2⟩ := (T0.out).close (.slice A l.length c) (.int .i64 at_) (.int .i64 f)
  exact bodyPost_ret (v := .tuple #[.int .u64 (IntKind.u64.wrap f), .slice none 0 0, rv A c ⟨l, at_, f⟩]) (by simp [results, Try.results39, go_sem, e0, e1, e2, rv]) rfl ⟨none, 0, by first | (rw [HE.out]; done) | (rw [HE.out]; rfl), by rw [HE.out]; exact (fun _ _ => Reads.none_), hb2.drew, by rw [HE.out]; exact HLE.out⟩
set_option maxRecDepth 100000 in
theorem told9_any {w : World} {A : Option Addr} {c : Nat} {l : List UInt8} {at_ : Nat} {f : Int} (hr : RvOk w A c ⟨l, at_, f⟩) (low high most : Int) :
    Calls Try.prog 39 #[.agg #[.slice A l.length c, .int .i64 at_, .int .i64 f], .agg #[.int .i64 9, .int .i64 low, .int .i64 high, .int .i64 most]] w (ToldPost w A c (Rd.call ⟨l, at_, f⟩ ⟨9, low, high, most⟩)) := by
  have H := Lib.hid hr
  clear hr
  go_enter Try.func39, Try.ntmps39
  go_wp2_with fail
  obtain ⟨W0, hW0⟩ : ∃ x, x = ((w.alloc (.cells #[.slice A l.length c, .int .i64 at_, .int .i64 f] 49)).alloc (.cells #[.int .i64 9, .int .i64 low, .int .i64 high, .int .i64 most] 54)).alloc (.cells #[.slice none 0 0, .int .i64 0, .int .i64 0] 49) := ⟨_, rfl⟩
  have T0 := Lib.hid (show Tri w W0 A c ⟨l, at_, f⟩ ⟨9, low, high, most⟩ from by rw [hW0]; exact Tri.start w A c ⟨l, at_, f⟩ ⟨9, low, high, most⟩)
  rw [← hW0]
  clear hW0
  have RV := Lib.hid (H.out.below T0.out.below)
  obtain ⟨⟨a0, a1, a2⟩, ⟨b0, b1, b2, b3⟩, ⟨j0, j1, j2⟩, j3, j4, j5⟩ := T0.out.cells
  simp only at a0 a1 a2 b0 b1 b2 b3
  have hn0 : w.heap.size ≠ W0.heap.size := by have := T0.out.res.lt; omega
  have hn1 : w.heap.size + 1 ≠ W0.heap.size := by have := T0.out.res.lt; omega
  have hm : w.heap.size ≠ w.heap.size + 1 + 1 := by omega
  have HLE := Lib.hid H.out.le
  go_region_held3 (fun w' => w'.cell? ⟨w.heap.size, 0, none⟩ = some (.slice A l.length c) ∧ w'.cell? ⟨w.heap.size, 1, none⟩ = some (.int .i64 at_) ∧ w'.cell? ⟨w.heap.size, 2, none⟩ = some (.int .i64 f)) (first | (exact ⟨x0, x1, x2⟩) | go_keep | (exact ⟨set3_far hm x0, set3_far hm x1, set3_far hm x2⟩)) (first | (go_at_call 45; refine (refEnd_any (A := A) (c := c) (r := ⟨l, at_, f⟩) (RV.out.below (Below.refl _ _).drew)).mono ?_; obtain ⟨n, hn⟩ : ∃ n, n = Rd.end_ ⟨l, at_, f⟩ := ⟨_, rfl⟩; rw [← hn]; rintro e w1 ⟨rfl, hb⟩; have HX := Lib.hid hn; clear hn; have B1 := Lib.hid (show Below W0.heap.size W0 w1 from ⟨hb.os, hb.tape, hb.output, hb.size, hb.block⟩); obtain ⟨⟨x0, x1, x2⟩, ⟨y0, y1, y2, y3⟩, ⟨j0, j1, j2⟩, j3, j4, j5⟩ := (T0.out.go B1.out).cells))
  have HE := Lib.hid (show Rd.call ⟨l, at_, f⟩ ⟨9, low, high, most⟩ = ((IntKind.u64.wrap n, []), ⟨l, at_, f⟩) from by unfold Rd.call; simp only [Int.reduceEq, if_false, if_true]; try rw [← HX.out])
  go_wp2
  change bodyPost _ _ _ _ _ (set3 w1 (w.heap.size + 1 + 1) _ _ _)
  obtain ⟨hb2, e0, e1, e2⟩ := (T0.out.go B1.out).close (.slice A l.length c) (.int .i64 at_) (.int .i64 f)
  exact bodyPost_ret (v := .tuple #[.int .u64 (IntKind.u64.wrap n), .slice none 0 0, rv A c ⟨l, at_, f⟩]) (by simp [results, Try.results39, go_sem, e0, e1, e2, rv]) rfl ⟨none, 0, by first | (rw [HE.out]; done) | (rw [HE.out]; rfl), by rw [HE.out]; exact (fun _ _ => Reads.none_), hb2, by rw [HE.out]; exact HLE.out⟩
set_option maxRecDepth 100000 in
theorem told10_any {w : World} {A : Option Addr} {c : Nat} {l : List UInt8} {at_ : Nat} {f : Int} (hr : RvOk w A c ⟨l, at_, f⟩) (kind low high most : Int) (hk0 : ¬ kind = 0) (hk1 : ¬ kind = 1) (hk2 : ¬ kind = 2) (hk3 : ¬ kind = 3) (hk4 : ¬ kind = 4) (hk5 : ¬ kind = 5) (hk6 : ¬ kind = 6) (hk7 : ¬ kind = 7) (hk8 : ¬ kind = 8) (hk9 : ¬ kind = 9) :
    Calls Try.prog 39 #[.agg #[.slice A l.length c, .int .i64 at_, .int .i64 f], .agg #[.int .i64 kind, .int .i64 low, .int .i64 high, .int .i64 most]] w (ToldPost w A c (Rd.call ⟨l, at_, f⟩ ⟨kind, low, high, most⟩)) := by
  have H := Lib.hid hr
  clear hr
  have k0 : (kind == 0) = false := by simp; omega
  have k1 : (kind == 1) = false := by simp; omega
  have k2 : (kind == 2) = false := by simp; omega
  have k3 : (kind == 3) = false := by simp; omega
  have k4 : (kind == 4) = false := by simp; omega
  have k5 : (kind == 5) = false := by simp; omega
  have k6 : (kind == 6) = false := by simp; omega
  have k7 : (kind == 7) = false := by simp; omega
  have k8 : (kind == 8) = false := by simp; omega
  have k9 : (kind == 9) = false := by simp; omega
  have HE := Lib.hid (show Rd.call ⟨l, at_, f⟩ ⟨kind, low, high, most⟩ = ((0, []), ⟨l, at_, f⟩) from by unfold Rd.call; simp only; rw [if_neg (show ¬ kind = 0 from hk0), if_neg (show ¬ kind = 1 from hk1), if_neg (show ¬ kind = 2 from hk2), if_neg (show ¬ kind = 3 from hk3), if_neg (show ¬ kind = 4 from hk4), if_neg (show ¬ kind = 5 from hk5), if_neg (show ¬ kind = 6 from hk6), if_neg (show ¬ kind = 7 from hk7), if_neg (show ¬ kind = 8 from hk8), if_neg (show ¬ kind = 9 from hk9)])
  clear hk0 hk1 hk2 hk3 hk4 hk5 hk6 hk7 hk8 hk9
  go_enter Try.func39, Try.ntmps39
  go_wp2_with fail
  obtain ⟨W0, hW0⟩ : ∃ x, x = ((w.alloc (.cells #[.slice A l.length c, .int .i64 at_, .int .i64 f] 49)).alloc (.cells #[.int .i64 kind, .int .i64 low, .int .i64 high, .int .i64 most] 54)).alloc (.cells #[.slice none 0 0, .int .i64 0, .int .i64 0] 49) := ⟨_, rfl⟩
  have T0 := Lib.hid (show Tri w W0 A c ⟨l, at_, f⟩ ⟨kind, low, high, most⟩ from by rw [hW0]; exact Tri.start w A c ⟨l, at_, f⟩ ⟨kind, low, high, most⟩)
  rw [← hW0]
  clear hW0
  have RV := Lib.hid (H.out.below T0.out.below)
  obtain ⟨⟨a0, a1, a2⟩, ⟨b0, b1, b2, b3⟩, ⟨j0, j1, j2⟩, j3, j4, j5⟩ := T0.out.cells
  simp only at a0 a1 a2 b0 b1 b2 b3
  have hn0 : w.heap.size ≠ W0.heap.size := by have := T0.out.res.lt; omega
  have hn1 : w.heap.size + 1 ≠ W0.heap.size := by have := T0.out.res.lt; omega
  have HLE := Lib.hid H.out.le
  go_region
  go_wp2
  change bodyPost _ _ _ _ _ (set3 W0 (w.heap.size + 1 + 1) _ _ _).drew
  obtain ⟨hb2, e0, e1, e2⟩ := (T0.out).close (.slice A l.length c) (.int .i64 at_) (.int .i64 f)
  exact bodyPost_ret (v := .tuple #[.int .u64 0, .slice none 0 0, rv A c ⟨l, at_, f⟩]) (by simp [results, Try.results39, go_sem, e0, e1, e2, rv]) rfl ⟨none, 0, by first | (rw [HE.out]; done) | (rw [HE.out]; rfl), by rw [HE.out]; exact (fun _ _ => Reads.none_), hb2.drew, by rw [HE.out]; exact HLE.out⟩
theorem told_any {w : World} {A : Option Addr} {c : Nat} {r : Rd} (hr : RvOk w A c r) (s : Sp) :
    Calls Try.prog 39 #[rv A c r, s.v] w (ToldPost w A c (r.call s)) := by
  obtain ⟨kind, low, high, most⟩ := s
  obtain ⟨l, at_, f⟩ := r
  by_cases hk0 : kind = 0
  · subst hk0; exact told0_any hr low high most
  by_cases hk1 : kind = 1
  · subst hk1; exact told1_any hr low high most
  by_cases hk2 : kind = 2
  · subst hk2; exact told2_any hr low high most
  by_cases hk3 : kind = 3
  · subst hk3; exact told3_any hr low high most
  by_cases hk4 : kind = 4
  · subst hk4; exact told4_any hr low high most
  by_cases hk5 : kind = 5
  · subst hk5; exact told5_any hr low high most
  by_cases hk6 : kind = 6
  · subst hk6; exact told6_any hr low high most
  by_cases hk7 : kind = 7
  · subst hk7; exact told7_any hr low high most
  by_cases hk8 : kind = 8
  · subst hk8; exact told8_any hr low high most
  by_cases hk9 : kind = 9
  · subst hk9; exact told9_any hr low high most
  exact told10_any hr kind low high most hk0 hk1 hk2 hk3 hk4 hk5 hk6 hk7 hk8 hk9
end Go.Proofs.Ytoeccclaaogihaa
