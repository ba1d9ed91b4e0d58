/- The reference's reader: Open, Left, End. -/
import Derived.Test.YtoeccclaaogihaaRefR1
import Derived.Test.YtoeccclaaogihaaRdr8
namespace Go.Proofs.Ytoeccclaaogihaa
open Go.RowKit

/-- A reader of the reference's, as a value. -/
def rv (A : Option Addr) (c : Nat) (r : Rd) : Value := .agg #[.slice A r.l.length c, .int .i64 r.at_, .int .i64 r.f]
/-- What holds of every reader of the reference's. -/
structure RvOk (w : World) (A : Option Addr) (c : Nat) (r : Rd) : Prop where
  reads : BReads w w.heap.size A r.l
  cap : r.l.length ≤ c
  le : r.at_ ≤ r.l.length
  small : r.l.length ≤ 140737488355328
theorem RvOk.below {w w' : World} {A : Option Addr} {c : Nat} {r : Rd} (h : RvOk w A c r) (hb : Below w.heap.size w w') : RvOk w' A c r :=
  ⟨(h.reads.below hb).more hb.size, h.cap, h.le, h.small⟩

/-- Three cells of one block written. -/
def set3 (w : World) (g : Nat) (x y z : Value) : World := ((w.setCell ⟨g, 0, none⟩ x).setCell ⟨g, 1, none⟩ y).setCell ⟨g, 2, none⟩ z
theorem Blk.set3 {w : World} {g : Nat} {t : TypeId} {a b c : Value} (h : Blk w g t #[a, b, c]) (x y z : Value) : Blk (set3 w g x y z) g t #[x, y, z] := by
  simpa [Go.Proofs.Ytoeccclaaogihaa.set3] using ((h.set_ 0 x).set_ 1 y).set_ 2 z
theorem below_set3 {w0 w : World} {B g : Nat} (h : Below B w0 w) (hg : B ≤ g) (x y z : Value) : Below B w0 (set3 w g x y z) := by
  unfold set3
  exact ((h.setCell (p := ⟨g, 0, none⟩) hg x).setCell (p := ⟨g, 1, none⟩) hg y).setCell (p := ⟨g, 2, none⟩) hg z
theorem BOwns.set3 {w : World} {base g : Nat} {v : Value} {l : List UInt8} {t : TypeId} {cs : Array Value} (h : BOwns w base v l) (hb : Blk w g t cs) (hne : 5 ≠ t) (x y z : Value) : BOwns (set3 w g x y z) base v l :=
  ((h.setOther (o := 0) (u := x) hb hne).setOther (o := 1) (u := y) (hb.set_ 0 x) hne).setOther (o := 2) (u := z) ((hb.set_ 0 x).set_ 1 y) hne
theorem BReads.of_owns {w : World} {base c : Nat} {A : Option Addr} {l : List UInt8} (h : BOwns w base (.slice A l.length c) l) : BReads w w.heap.size A l := by
  obtain ⟨A', c', e, _, hr⟩ := h.slice
  injection e with e1 _ _
  subst e1; exact hr
theorem BOwns.cap {w : World} {base n c : Nat} {A : Option Addr} {l : List UInt8} (h : BOwns w base (.slice A n c) l) : l.length ≤ c := by
  obtain ⟨A', c', e, hc, hr⟩ := h.slice
  injection e with e1 _ e2
  subst e2; exact hc

theorem refLeft_any {w : World} {A : Option Addr} {c : Nat} {r : Rd} (hr : RvOk w A c r) :
    Calls Try.prog 43 #[rv A c r] w fun e w' => e = .returned (.int .i64 r.left) ∧ Below w.heap.size w w' := by
  have H := Lib.hid hr
  have hl := hr.small
  have hle := hr.le
  clear hr
  unfold rv Rd.left
  go_enter Try.func43, Try.ntmps43
  go_wp2
  go_ret
  refine ⟨rfl, ?_⟩
  exact (Below.refl _ w).alloc (Nat.le_refl _) _
theorem refEnd_any {w : World} {A : Option Addr} {c : Nat} {r : Rd} (hr : RvOk w A c r) :
    Calls Try.prog 45 #[rv A c r] w fun e w' => e = .returned (.int .i64 r.end_) ∧ Below w.heap.size w w' := by
  have H := Lib.hid hr
  clear hr
  unfold rv
  by_cases hf : r.f = 0
  · have hfb : (r.f == 0) = true := by simp [hf]
    have HF := Lib.hid hf
    clear hf
    go_enter Try.func45, Try.ntmps45
    go_wp2_with fail
    refine (refLeft_any (A := A) (c := c) (r := r) (H.out.below ((Below.refl _ w).alloc (Nat.le_refl _) _))).mono ?_
    rintro e w1 ⟨rfl, hb⟩
    have B1 := Lib.hid (below_alloc1 hb)
    clear hb
    by_cases hpos : 0 < r.left
    · have HE := Lib.hid (show r.end_ = 22 from by unfold Rd.end_; rw [if_pos HF.out, if_pos hpos])
      go_wp2
      go_ret
      exact ⟨by rw [HE.out]; rfl, B1.out⟩
    · have HE := Lib.hid (show r.end_ = 0 from by unfold Rd.end_; rw [if_pos HF.out, if_neg hpos])
      go_wp2
      go_ret
      exact ⟨by rw [HE.out]; rfl, B1.out⟩
  · have hfb : (r.f == 0) = false := by simp [hf]
    have HE := Lib.hid (show r.end_ = r.f from by unfold Rd.end_; rw [if_neg hf])
    clear hf
    go_enter Try.func45, Try.ntmps45
    go_wp2
    go_ret
    exact ⟨by rw [HE.out]; rfl, (Below.refl _ w).alloc (Nat.le_refl _) _⟩
theorem refOpen_any {w : World} {B c : Nat} {A : Option Addr} {l : List UInt8} (hr : BReads w B A l) (hB : B ≤ w.heap.size) (hl : l.length ≤ 140737488355328) :
    Calls Try.prog 37 #[.slice A l.length c] w fun e w' => ∃ A' c', e = .returned (rv A' c' ⟨l, 0, 0⟩) ∧ RvOk w' A' c' ⟨l, 0, 0⟩ ∧ Below w.heap.size w w' := by
  have HR := Lib.hid hr
  clear hr
  go_enter Try.func37, Try.ntmps37
  go_wp2_with (at_builtin; refine Stop.of ?_)
  obtain ⟨W1, hW⟩ : ∃ x, x = w.alloc (.cells #[.slice none 0 0, .int .i64 0, .int .i64 0] 49) := ⟨_, rfl⟩
  have HB1 := Lib.hid (show Below w.heap.size w W1 from by rw [hW]; exact (Below.refl _ w).alloc (Nat.le_refl _) _)
  have K1 := Lib.hid (show Blk W1 w.heap.size 49 #[.slice none 0 0, .int .i64 0, .int .i64 0] from by rw [hW]; exact Blk.new _ _ _)
  have s1 : w.heap.size + 1 = W1.heap.size := by rw [hW]; simp
  rw [← hW, s1]
  have R1 := Lib.hid ((HR.out.below (HB1.out.mono hB)).below ((Below.refl B W1).alloc (Nat.le_trans hB HB1.out.size) (.cells #[] 5)))
  refine ⟨append_bytes (empty_owns W1) R1.out.src (by simp only [List.length_nil]; omega) (by simp) rfl rfl rfl rfl ?_⟩
  intro v2 w2 ho hg _
  have B2 := Lib.hid (show Below W1.heap.size W1 w2 from below_grown ((Below.refl _ _).alloc (Nat.le_refl _) _) (empty_owns W1) hg)
  rw [List.nil_append] at ho
  obtain ⟨A2, c2, rfl, hc, hr2⟩ := ho.slice
  have O2 := Lib.hid ho
  have K2 := Lib.hid (K1.out.below' B2.out)
  have B3 := Lib.hid (HB1.out.trans (B2.out.mono HB1.out.size))
  clear ho hg hr2 hW s1
  have k0 := K2.out.cell 0
  have k1 := K2.out.cell 1
  have k2 := K2.out.cell 2
  have f0 := K2.out.frozen 0
  have f1 := K2.out.frozen 1
  have f2 := K2.out.frozen 2
  simp at k0 k1 k2
  go_wp2
  change bodyPost _ _ _ _ _ (set3 w2 w.heap.size _ _ _)
  have K3 := K2.out.set3 (.slice A2 l.length c2) (.int .i64 0) (.int .i64 0)
  have O3 := O2.out.set3 K2.out (by decide) (.slice A2 l.length c2) (.int .i64 0) (.int .i64 0)
  have B4 := below_set3 B3.out (Nat.le_refl _) (.slice A2 l.length c2) (.int .i64 0) (.int .i64 0)
  obtain ⟨w3, hw3⟩ : ∃ x, x = set3 w2 w.heap.size (.slice A2 l.length c2) (.int .i64 0) (.int .i64 0) := ⟨_, rfl⟩
  rw [← hw3] at K3 O3 B4 ⊢
  clear hw3 k0 k1 k2 f0 f1 f2
  have k0 := K3.cell 0
  have k1 := K3.cell 1
  have k2 := K3.cell 2
  simp at k0 k1 k2
  refine bodyPost_ret (v := rv A2 c2 ⟨l, 0, 0⟩) (by simp [results, Try.results37, go_sem, k0, k1, k2, rv]) rfl ⟨A2, c2, rfl, ?_, B4⟩
  exact ⟨BReads.of_owns O3, O3.cap, Nat.zero_le _, hl⟩

/-- A method of the reference's reader at work: its own reader in the first new block, the answer's variable in the next. -/
structure Two (w W : World) (A : Option Addr) (c : Nat) (r : Rd) : Prop where
  box : Blk W w.heap.size 49 #[.slice A r.l.length c, .int .i64 r.at_, .int .i64 r.f]
  res : Blk W (w.heap.size + 1) 49 #[.slice none 0 0, .int .i64 0, .int .i64 0]
  below : Below w.heap.size w W
theorem Two.start (w : World) (A : Option Addr) (c : Nat) (r : Rd) : Two w ((w.alloc (.cells #[.slice A r.l.length c, .int .i64 r.at_, .int .i64 r.f] 49)).alloc (.cells #[.slice none 0 0, .int .i64 0, .int .i64 0] 49)) A c r :=
  ⟨(Blk.new _ _ _).alloc _, by simpa using Blk.new (w.alloc (.cells #[.slice A r.l.length c, .int .i64 r.at_, .int .i64 r.f] 49)) 49 #[.slice none 0 0, .int .i64 0, .int .i64 0], ((Below.refl _ w).alloc (Nat.le_refl _) _).alloc (by simp) _⟩
theorem Two.go {w W W' : World} {A : Option Addr} {c : Nat} {r : Rd} (h : Two w W A c r) (hb : Below W.heap.size W W') : Two w W' A c r :=
  ⟨h.box.below' hb, h.res.below' hb, h.below.trans (hb.mono h.below.size)⟩
theorem Two.fault {w W : World} {A : Option Addr} {c : Nat} {r : Rd} (h : Two w W A c r) (m : Int) : Two w (W.setCell ⟨w.heap.size, 2, none⟩ (.int .i64 m)) A c { r with f := m } :=
  ⟨by simpa using h.box.set_ 2 (.int .i64 m), h.res.far (p := ⟨w.heap.size, 2, none⟩) (by simp) _, h.below.setCell (Nat.le_refl _) _⟩
theorem Two.place {w W : World} {A : Option Addr} {c : Nat} {r : Rd} (h : Two w W A c r) (k : Nat) : Two w (W.setCell ⟨w.heap.size, 1, none⟩ (.int .i64 k)) A c { r with at_ := k } :=
  ⟨by simpa using h.box.set_ 1 (.int .i64 k), h.res.far (p := ⟨w.heap.size, 1, none⟩) (by simp) _, h.below.setCell (Nat.le_refl _) _⟩
theorem Two.far {w W : World} {A : Option Addr} {c : Nat} {r : Rd} (h : Two w W A c r) {p : Addr} (hp : w.heap.size + 1 < p.block) (u : Value) : Two w (W.setCell p u) A c r :=
  ⟨h.box.far (by omega) u, h.res.far (by omega) u, h.below.setCell (by omega) u⟩
theorem Two.boxed {w W : World} {A : Option Addr} {c : Nat} {r : Rd} (h : Two w W A c r) :
    (W.cell? ⟨w.heap.size, 0, none⟩ = some (.slice A r.l.length c) ∧ W.cell? ⟨w.heap.size, 1, none⟩ = some (.int .i64 r.at_) ∧ W.cell? ⟨w.heap.size, 2, none⟩ = some (.int .i64 r.f)) ∧
    W.frozen? ⟨w.heap.size, 1, none⟩ = false ∧ W.frozen? ⟨w.heap.size, 2, none⟩ = false :=
  ⟨⟨by simpa using h.box.cell 0, by simpa using h.box.cell 1, by simpa using h.box.cell 2⟩, h.box.frozen 1, h.box.frozen 2⟩
theorem Two.ans {w W : World} {A : Option Addr} {c : Nat} {r : Rd} (h : Two w W A c r) :
    (W.cell? ⟨w.heap.size + 1, 0, none⟩ = some (.slice none 0 0) ∧ W.cell? ⟨w.heap.size + 1, 1, none⟩ = some (.int .i64 0) ∧ W.cell? ⟨w.heap.size + 1, 2, none⟩ = some (.int .i64 0)) ∧
    W.frozen? ⟨w.heap.size + 1, 0, none⟩ = false ∧ W.frozen? ⟨w.heap.size + 1, 1, none⟩ = false ∧ W.frozen? ⟨w.heap.size + 1, 2, none⟩ = false :=
  ⟨⟨by simpa using h.res.cell 0, by simpa using h.res.cell 1, by simpa using h.res.cell 2⟩, h.res.frozen 0, h.res.frozen 1, h.res.frozen 2⟩
/-- The answer's variable written: what stands in it. -/
theorem Two.close {w W : World} {A : Option Addr} {c : Nat} {r : Rd} (h : Two w W A c r) (n at' f' : Value) :
    Below w.heap.size w (set3 W (w.heap.size + 1) n at' f') ∧ (set3 W (w.heap.size + 1) n at' f').cell? ⟨w.heap.size + 1, 0, none⟩ = some n ∧ (set3 W (w.heap.size + 1) n at' f').cell? ⟨w.heap.size + 1, 1, none⟩ = some at' ∧ (set3 W (w.heap.size + 1) n at' f').cell? ⟨w.heap.size + 1, 2, none⟩ = some f' := by
  have hb := h.res.set3 n at' f'
  exact ⟨below_set3 h.below (by omega) _ _ _, by simpa using hb.cell 0, by simpa using hb.cell 1, by simpa using hb.cell 2⟩
end Go.Proofs.Ytoeccclaaogihaa
