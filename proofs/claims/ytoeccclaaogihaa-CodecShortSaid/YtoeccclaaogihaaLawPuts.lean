/- CodecShort, CodecTexts: the walks of the laws. -/
import Derived.Test.YtoeccclaaogihaaRef1
import Derived.Test.YtoeccclaaogihaaEqual
namespace Go.Proofs.Ytoeccclaaogihaa
open Go.RowKit

/-- The law answers true and turns nothing that was there. -/
def LawTrue (w : World) (e : Ending) (w' : World) : Prop := e = .returned (.bool true) ∧ Below w.heap.size w w'

theorem below_drewN {B : Nat} {a w : World} (h : Below B a w) (n : Nat) : Below B a (w.drewN n) := ⟨h.os, h.tape, h.output, h.size, h.block⟩

theorem codecShort_walk {w : World} {c : Nat} {A : Option Addr} {l : List UInt8} (hr : BReads w w.heap.size A l) (hl : l.length ≤ 140737488351232) (n : Int)
    (h0 : -9223372036854775808 ≤ n) (h1 : n ≤ 9223372036854775807) :
    Calls Try.prog 7 #[.slice A l.length c, .int .i64 n] w (LawTrue w) := by
  have HR := Lib.hid (hr.below ((Below.refl _ w).alloc (Nat.le_refl _) (.cells #[] 5)))
  have HR0 := Lib.hid hr
  clear hr
  go_enter Try.func7, Try.ntmps7
  go_wp2_with (at_builtin; refine Stop.of ?_)
  refine ⟨append_bytes (empty_owns w) HR.out.src (by simp only [List.length_nil]; omega) (by simp) rfl rfl rfl rfl ?_⟩
  intro v1 w1 ho hg _
  have B1 := Lib.hid (show Below w.heap.size w w1 from below_grown ((Below.refl _ _).alloc (Nat.le_refl _) _) (empty_owns w) hg)
  rw [List.nil_append] at ho
  obtain ⟨A1, c1, rfl, _, hr1⟩ := ho.slice
  have R1 := Lib.hid hr1
  clear ho hg hr1
  go_wp2_with fail
  refine (putInt_any n (HR0.out.below B1.out) h0 h1 (by omega)).mono ?_
  rintro e w2 h
  obtain ⟨L2, A2, c2, rfl, E2, _, R2, B2⟩ := h.named
  replace R1 := hid_up R1 B2
  replace B1 := hid_below B1 B2
  clear h
  go_wp2_with fail
  refine (refPutInt_any n R1.out (Nat.le_refl _) h0 h1 (by omega)).mono ?_
  rintro e w3 h
  obtain ⟨L3, A3, c3, rfl, E3, _, R3, B3⟩ := h.named
  replace R2 := hid_up R2 B3
  replace B1 := hid_below B1 B3
  clear h
  go_wp2_with fail
  refine (equal_any R2.out R3.out (by have := intF_length h0 h1; rw [E2.out, List.length_append]; omega)).mono ?_
  rintro e w4 h
  obtain ⟨rfl, m, rfl⟩ := h.out
  have HE := Lib.hid (decide_eq_true (E2.out.trans E3.out.symm))
  rw [HE.out]
  go_wp2
  go_ret
  exact ⟨rfl, below_drewN B1.out _⟩
end Go.Proofs.Ytoeccclaaogihaa
