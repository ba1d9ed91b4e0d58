/- CodecTwo: two readers side by side. -/
import Derived.Test.YtoeccclaaogihaaReads1
namespace Go.Proofs.Ytoeccclaaogihaa
open Go.RowKit

theorem refLeftV_any {w : World} {A : Option Addr} {c : Nat} {r : Rd} (hr : RvOk w A c r) :
    Calls Try.prog 43 #[.agg #[.slice A r.l.length c, .int .i64 r.at_, .int .i64 r.f]] w fun e w' => e = .returned (.int .i64 r.left) ∧ Below w.heap.size w w' := refLeft_any hr
def row2 (A0 : Option Addr) (c0 : Nat) (R0 : Rd) (A1 : Option Addr) (c1 : Nat) (R1 : Rd) : Array Value :=
  #[.slice A0 R0.l.length c0, .int .i64 R0.at_, .int .i64 R0.f, .slice A1 R1.l.length c1, .int .i64 R1.at_, .int .i64 R1.f]
/-- The program's two readers in blocks g0 and g1, their pointers in gp; the document's two in gw. -/
structure Duo (w wr : World) (gw gp g0 g1 : Nat) (A0 : Option Addr) (c0 : Nat) (R0 : Rd) (A1 : Option Addr) (c1 : Nat) (R1 : Rd) : Prop where
  mine0 : RdIs wr g0 R0
  mine1 : RdIs wr g1 R1
  want : Blk wr gw 49 (row2 A0 c0 R0 A1 c1 R1)
  ptrs : Blk wr gp 51 #[.pointer (some ⟨g0, 0, none⟩), .pointer (some ⟨g1, 0, none⟩)]
  reads0 : BReads wr gw A0 R0.l
  reads1 : BReads wr gw A1 R1.l
  cap0 : R0.l.length ≤ c0
  cap1 : R1.l.length ≤ c1
  le0 : R0.at_ ≤ R0.l.length
  le1 : R1.at_ ≤ R1.l.length
  small0 : R0.l.length ≤ 140737488355328
  small1 : R1.l.length ≤ 140737488355328
  o0 : w.heap.size ≤ gw
  o1 : gw < g0
  o2 : g0 < g1
  o3 : g1 < gp
  below : Below w.heap.size w wr
section
variable {w wr w' : World} {gw gp g0 g1 : Nat} {A0 A1 : Option Addr} {c0 c1 : Nat} {R0 R1 R2 : Rd}
theorem Duo.go (h : Duo w wr gw gp g0 g1 A0 c0 R0 A1 c1 R1) (hb : Below wr.heap.size wr w') : Duo w w' gw gp g0 g1 A0 c0 R0 A1 c1 R1 :=
  ⟨h.mine0.below hb, h.mine1.below hb, h.want.below' hb, h.ptrs.below' hb, h.reads0.below (hb.mono (Nat.le_of_lt h.want.lt)), h.reads1.below (hb.mono (Nat.le_of_lt h.want.lt)), h.cap0, h.cap1, h.le0, h.le1, h.small0, h.small1, h.o0, h.o1, h.o2, h.o3, h.below.trans (hb.mono h.below.size)⟩
theorem Duo.far (h : Duo w wr gw gp g0 g1 A0 c0 R0 A1 c1 R1) {g : Nat} (hg : gp < g) (x y z : Value) : Duo w (set3 wr g x y z) gw gp g0 g1 A0 c0 R0 A1 c1 R1 := by
  have ⟨o0, o1, o2, o3⟩ := (⟨h.o0, h.o1, h.o2, h.o3⟩ : _ ∧ _ ∧ _ ∧ _)
  have hk : Keeps (fun k => k = g) wr (set3 wr g x y z) := (((Keeps.refl (fun k => k = g) wr).setCell (p := ⟨g, 0, none⟩) (.inl rfl) x).setCell (p := ⟨g, 1, none⟩) (.inl rfl) y).setCell (p := ⟨g, 2, none⟩) (.inl rfl) z
  exact ⟨h.mine0.keeps hk (fun i hi => by omega), h.mine1.keeps hk (fun i hi => by omega), blk_set3_far h.want (by omega), blk_set3_far h.ptrs (by omega), h.reads0.below (hk.below (Nat.le_of_lt h.want.lt) (fun i hi => by omega)), h.reads1.below (hk.below (Nat.le_of_lt h.want.lt) (fun i hi => by omega)), h.cap0, h.cap1, h.le0, h.le1, h.small0, h.small1, o0, o1, o2, o3, below_set3 h.below (by omega) _ _ _⟩
theorem Duo.held (h : Duo w wr gw gp g0 g1 A0 c0 R0 A1 c1 R1) :
    wr.cell? ⟨gw, 0, none⟩ = some (.slice A0 R0.l.length c0) ∧ wr.cell? ⟨gw, 1, none⟩ = some (.int .i64 R0.at_) ∧ wr.cell? ⟨gw, 2, none⟩ = some (.int .i64 R0.f) ∧
    wr.cell? ⟨gw, 3, none⟩ = some (.slice A1 R1.l.length c1) ∧ wr.cell? ⟨gw, 4, none⟩ = some (.int .i64 R1.at_) ∧ wr.cell? ⟨gw, 5, none⟩ = some (.int .i64 R1.f) ∧
    wr.cell? ⟨gp, 0, none⟩ = some (.pointer (some ⟨g0, 0, none⟩)) ∧ wr.cell? ⟨gp, 1, none⟩ = some (.pointer (some ⟨g1, 0, none⟩)) ∧ Hid (Duo w wr gw gp g0 g1 A0 c0 R0 A1 c1 R1) :=
  ⟨by simpa [row2] using h.want.cell 0, by simpa [row2] using h.want.cell 1, by simpa [row2] using h.want.cell 2, by simpa [row2] using h.want.cell 3, by simpa [row2] using h.want.cell 4, by simpa [row2] using h.want.cell 5, by simpa using h.ptrs.cell 0, by simpa using h.ptrs.cell 1, Lib.hid h⟩
theorem Duo.ok0 (h : Duo w wr gw gp g0 g1 A0 c0 R0 A1 c1 R1) : RvOk wr A0 c0 R0 := ⟨h.reads0.more (Nat.le_of_lt h.want.lt), h.cap0, h.le0, h.small0⟩
theorem Duo.ok1 (h : Duo w wr gw gp g0 g1 A0 c0 R0 A1 c1 R1) : RvOk wr A1 c1 R1 := ⟨h.reads1.more (Nat.le_of_lt h.want.lt), h.cap1, h.le1, h.small1⟩
theorem Duo.cells (h : Duo w wr gw gp g0 g1 A0 c0 R0 A1 c1 R1) :
    (wr.cell? ⟨gw, 0, none⟩ = some (.slice A0 R0.l.length c0) ∧ wr.cell? ⟨gw, 1, none⟩ = some (.int .i64 R0.at_) ∧ wr.cell? ⟨gw, 2, none⟩ = some (.int .i64 R0.f)) ∧
    (wr.cell? ⟨gw, 3, none⟩ = some (.slice A1 R1.l.length c1) ∧ wr.cell? ⟨gw, 4, none⟩ = some (.int .i64 R1.at_) ∧ wr.cell? ⟨gw, 5, none⟩ = some (.int .i64 R1.f)) ∧
    wr.cell? ⟨gp, 0, none⟩ = some (.pointer (some ⟨g0, 0, none⟩)) ∧ wr.cell? ⟨gp, 1, none⟩ = some (.pointer (some ⟨g1, 0, none⟩)) :=
  ⟨⟨by simpa [row2] using h.want.cell 0, by simpa [row2] using h.want.cell 1, by simpa [row2] using h.want.cell 2⟩, ⟨by simpa [row2] using h.want.cell 3, by simpa [row2] using h.want.cell 4, by simpa [row2] using h.want.cell 5⟩, by simpa using h.ptrs.cell 0, by simpa using h.ptrs.cell 1⟩
/-- Three cells of one block written, from a place on. -/
def setAt (w : World) (g o : Nat) (x y z : Value) : World := ((w.setCell ⟨g, o, none⟩ x).setCell ⟨g, o + 1, none⟩ y).setCell ⟨g, o + 2, none⟩ z
theorem keeps_setAt (w : World) (g o : Nat) (x y z : Value) : Keeps (fun k => k = g) w (setAt w g o x y z) :=
  (((Keeps.refl (fun k => k = g) w).setCell (p := ⟨g, o, none⟩) (.inl rfl) x).setCell (p := ⟨g, o + 1, none⟩) (.inl rfl) y).setCell (p := ⟨g, o + 2, none⟩) (.inl rfl) z
theorem RdIs.other (h : RdIs wr g0 R0) : ∃ cs, Blk wr g0 83 cs := by obtain ⟨A, c, h⟩ := h; exact ⟨_, h.blk⟩
/-- Reader 0 has gone on to R2. -/
theorem Duo.next0 {m : Nat} (h : Duo w wr gw gp g0 g1 A0 c0 R0 A1 c1 R1) (hr : RdIs w' g0 R2) (hk : Keeps (fun k => k = g0) wr w') (hl : R2.l = R0.l) (hle : R2.at_ ≤ R2.l.length) :
    Duo w (setAt (w'.drewN m) gw 0 (.slice A0 R2.l.length c0) (.int .i64 R2.at_) (.int .i64 R2.f)) gw gp g0 g1 A0 c0 R2 A1 c1 R1 := by
  have ⟨o0, o1, o2, o3⟩ := (⟨h.o0, h.o1, h.o2, h.o3⟩ : _ ∧ _ ∧ _ ∧ _)
  obtain ⟨cs, hb0⟩ := h.mine0.other
  have hw := (h.want.keeps hk (show ¬ gw = g0 by omega)).drewN m
  have hkk := keeps_setAt (w'.drewN m) gw 0 (.slice A0 R2.l.length c0) (.int .i64 R2.at_) (.int .i64 R2.f)
  have hd : ∀ (g : Nat) (R : Rd), gw < g → RdIs w' g R → RdIs (setAt (w'.drewN m) gw 0 (.slice A0 R2.l.length c0) (.int .i64 R2.at_) (.int .i64 R2.f)) g R := fun g R hg hR =>
    (hR.keeps ((Keeps.refl (fun _ => False) w').drewN m) (fun _ h => h.elim)).keepsO hkk (fun i hi => by subst hi; exact ⟨by omega, .inr ⟨_, _, hw, by decide⟩⟩)
  have hrd : ∀ (A : Option Addr) (l : List UInt8), BReads wr gw A l → BReads (setAt (w'.drewN m) gw 0 (.slice A0 R2.l.length c0) (.int .i64 R2.at_) (.int .i64 R2.f)) gw A l := fun A l hR =>
    (show BReads (w'.drewN m) gw A l from (show BReads w' gw A l from hR.below (hk.below (Nat.le_of_lt h.want.lt) (fun i hi => by omega)))).below (hkk.below (Nat.le_of_lt hw.lt) (fun i hi => by omega))
  have hp := (h.ptrs.keeps hk (show ¬ gp = g0 by omega)).drewN m
  refine ⟨hd _ _ (by omega) hr, hd _ _ (by omega) (h.mine1.keepsO hk (fun i hi => by subst hi; exact ⟨by omega, .inr ⟨_, _, hb0, by decide⟩⟩)), ?_, hp.keeps hkk (by omega), by rw [hl] at hrd ⊢; exact hrd _ _ h.reads0, hrd _ _ h.reads1, by rw [hl]; exact h.cap0, h.cap1, hle, h.le1, by rw [hl]; exact h.small0, h.small1, o0, o1, o2, o3, ?_⟩
  · simpa [row2, setAt] using ((hw.set_ 0 (.slice A0 R2.l.length c0)).set_ 1 (.int .i64 R2.at_)).set_ 2 (.int .i64 R2.f)
  · exact (h.below.trans (hk.below h.below.size (fun i hi => by omega))).trans ((below_drewN (Below.refl _ _) m).trans (hkk.below (Nat.le_trans o0 (Nat.le_of_lt hw.lt)) (fun i hi => by omega)))
/-- Reader 1 has gone on to R2. -/
theorem Duo.next1 {m : Nat} (h : Duo w wr gw gp g0 g1 A0 c0 R0 A1 c1 R1) (hr : RdIs w' g1 R2) (hk : Keeps (fun k => k = g1) wr w') (hl : R2.l = R1.l) (hle : R2.at_ ≤ R2.l.length) :
    Duo w (setAt (w'.drewN m) gw 3 (.slice A1 R2.l.length c1) (.int .i64 R2.at_) (.int .i64 R2.f)) gw gp g0 g1 A0 c0 R0 A1 c1 R2 := by
  have ⟨o0, o1, o2, o3⟩ := (⟨h.o0, h.o1, h.o2, h.o3⟩ : _ ∧ _ ∧ _ ∧ _)
  obtain ⟨cs, hb0⟩ := h.mine1.other
  have hw := (h.want.keeps hk (show ¬ gw = g1 by omega)).drewN m
  have hkk := keeps_setAt (w'.drewN m) gw 3 (.slice A1 R2.l.length c1) (.int .i64 R2.at_) (.int .i64 R2.f)
  have hd : ∀ (g : Nat) (R : Rd), gw < g → RdIs w' g R → RdIs (setAt (w'.drewN m) gw 3 (.slice A1 R2.l.length c1) (.int .i64 R2.at_) (.int .i64 R2.f)) g R := fun g R hg hR =>
    (hR.keeps ((Keeps.refl (fun _ => False) w').drewN m) (fun _ h => h.elim)).keepsO hkk (fun i hi => by subst hi; exact ⟨by omega, .inr ⟨_, _, hw, by decide⟩⟩)
  have hrd : ∀ (A : Option Addr) (l : List UInt8), BReads wr gw A l → BReads (setAt (w'.drewN m) gw 3 (.slice A1 R2.l.length c1) (.int .i64 R2.at_) (.int .i64 R2.f)) gw A l := fun A l hR =>
    (show BReads (w'.drewN m) gw A l from (show BReads w' gw A l from hR.below (hk.below (Nat.le_of_lt h.want.lt) (fun i hi => by omega)))).below (hkk.below (Nat.le_of_lt hw.lt) (fun i hi => by omega))
  have hp := (h.ptrs.keeps hk (show ¬ gp = g1 by omega)).drewN m
  refine ⟨hd _ _ (by omega) (h.mine0.keepsO hk (fun i hi => by subst hi; exact ⟨by omega, .inr ⟨_, _, hb0, by decide⟩⟩)), hd _ _ (by omega) hr, ?_, hp.keeps hkk (by omega), hrd _ _ h.reads0, by rw [hl] at hrd ⊢; exact hrd _ _ h.reads1, h.cap0, by rw [hl]; exact h.cap1, h.le0, hle, h.small0, by rw [hl]; exact h.small1, o0, o1, o2, o3, ?_⟩
  · simpa [row2, setAt] using ((hw.set_ 3 (.slice A1 R2.l.length c1)).set_ 4 (.int .i64 R2.at_)).set_ 5 (.int .i64 R2.f)
  · exact (h.below.trans (hk.below h.below.size (fun i hi => by omega))).trans ((below_drewN (Below.refl _ _) m).trans (hkk.below (Nat.le_trans o0 (Nat.le_of_lt hw.lt)) (fun i hi => by omega)))
end
end Go.Proofs.Ytoeccclaaogihaa
