/- CodecShort, CodecTexts: the walks of the laws. -/
import Derived.Test.YtoeccclaaogihaaRef1
import Derived.Test.YtoeccclaaogihaaRefPut
import Derived.Test.YtoeccclaaogihaaEqual
namespace Go.Proofs.Ytoeccclaaogihaa
open Go.RowKit

/-- The law answers true and turns nothing that was there. -/
def LawTrue (w : World) (e : Ending) (w' : World) : Prop := e = .returned (.bool true) ∧ Below w.heap.size w w'

theorem below_drewN {B : Nat} {a w : World} (h : Below B a w) (n : Nat) : Below B a (w.drewN n) := ⟨h.os, h.tape, h.output, h.size, h.block⟩

theorem codecShort_walk {w : World} {c : Nat} {A : Option Addr} {l : List UInt8} (hr : BReads w w.heap.size A l) (hl : l.length ≤ 140737488351232) (n : Int)
    (h0 : -9223372036854775808 ≤ n) (h1 : n ≤ 9223372036854775807) :
    Calls Try.prog 7 #[.slice A l.length c, .int .i64 n] w (LawTrue w) := by
  have HR := Lib.hid (hr.below ((Below.refl _ w).alloc (Nat.le_refl _) (.cells #[] 5)))
  have HR0 := Lib.hid hr
  clear hr
  go_enter Try.func7, Try.ntmps7
  go_wp2_with (at_builtin; refine Stop.of ?_)
  refine ⟨append_bytes (empty_owns w) HR.out.src (by simp only [List.length_nil]; omega) (by simp) rfl rfl rfl rfl ?_⟩
  intro v1 w1 ho hg _
  have B1 := Lib.hid (show Below w.heap.size w w1 from below_grown ((Below.refl _ _).alloc (Nat.le_refl _) _) (empty_owns w) hg)
  rw [List.nil_append] at ho
  obtain ⟨A1, c1, rfl, _, hr1⟩ := ho.slice
  have R1 := Lib.hid hr1
  clear ho hg hr1
  go_wp2_with fail
  refine (putInt_any n (HR0.out.below B1.out) h0 h1 (by omega)).mono ?_
  rintro e w2 h
  obtain ⟨L2, A2, c2, rfl, E2, _, R2, B2⟩ := h.named
  replace R1 := hid_up R1 B2
  replace B1 := hid_below B1 B2
  clear h
  go_wp2_with fail
  refine (refPutInt_any n R1.out (Nat.le_refl _) h0 h1 (by omega)).mono ?_
  rintro e w3 h
  obtain ⟨L3, A3, c3, rfl, E3, _, R3, B3⟩ := h.named
  replace R2 := hid_up R2 B3
  replace B1 := hid_below B1 B3
  clear h
  go_wp2_with fail
  refine (equal_any R2.out R3.out (by have := intF_length h0 h1; rw [E2.out, List.length_append]; omega)).mono ?_
  rintro e w4 h
  obtain ⟨rfl, m, rfl⟩ := h.out
  have HE := Lib.hid (decide_eq_true (E2.out.trans E3.out.symm))
  rw [HE.out]
  go_wp2
  go_ret
  exact ⟨rfl, below_drewN B1.out _⟩

theorem codecTexts_walk {w : World} {c : Nat} {A : Option Addr} {l : List UInt8} (hr : BReads w w.heap.size A l) (s : ByteArray) (hk : l.length + 1 + (s.size + 1 + 0) ≤ 1048576) :
    Calls Try.prog 8 #[.slice A l.length c, .string s] w (LawTrue w) := by
  have kc := conv_bytes
  have HR := Lib.hid (hr.below ((Below.refl _ w).alloc (Nat.le_refl _) (.cells #[] 5)))
  have R0 := Lib.hid hr
  have HS := Lib.hid (str_length s)
  clear hr
  go_enter Try.func8, Try.ntmps8
  go_wp2_with (at_builtin; refine Stop.of ?_)
  refine ⟨append_bytes (empty_owns w) HR.out.src (by simp only [List.length_nil]; omega) (by simp) rfl rfl rfl rfl ?_⟩
  intro v1 w1 ho hg _
  have B1 := Lib.hid (show Below w.heap.size w w1 from below_grown ((Below.refl _ _).alloc (Nat.le_refl _) _) (empty_owns w) hg)
  rw [List.nil_append] at ho
  obtain ⟨A1, c1, rfl, _, hr1⟩ := ho.slice
  have R1 := Lib.hid hr1
  replace R0 := hid_up R0 B1
  clear ho hg hr1
  have hE := str_length s
  go_wp2_with fail
  have Bc := Lib.hid (bytesWorld_below w1 5 s)
  have Rc := Lib.hid (bytesWorld_reads w1 5 s)
  obtain ⟨w2, hw2⟩ : ∃ w2, w2 = Lib.bytesWorld w1 5 s := ⟨_, rfl⟩
  obtain ⟨S, hS⟩ : ∃ S, S = s.data.toList := ⟨_, rfl⟩
  rw [← hw2] at Bc Rc ⊢
  rw [← hS] at Rc
  have hSl : s.size = S.length := by rw [hS]; exact HS.out.symm
  have ES := Lib.hid hS
  have ESl := Lib.hid hSl
  rw [hSl]
  rw [hSl] at hk
  clear hw2 hS hSl hE
  replace R0 := hid_up R0 Bc
  replace R1 := hid_up R1 Bc
  replace B1 := hid_below B1 Bc
  refine (refPutBytes_any R1.out (Nat.le_refl _) Rc.out (Nat.le_refl _) (by omega)).mono ?_
  rintro e w3 h
  obtain ⟨L3, A3, c3, rfl, E3, _, R3, B3⟩ := h.named
  replace R0 := hid_up R0 B3
  replace B1 := hid_below B1 B3
  clear h Rc R1 Bc
  go_wp2_with fail
  refine (putText_any s R0.out (by have := ESl.out; omega) (by have := ESl.out; omega)).mono ?_
  rintro e w4 h
  obtain ⟨L4, A4, c4, rfl, E4, _, R4, B4⟩ := h.named
  replace R0 := hid_up R0 B4
  replace R3 := hid_up R3 B4
  replace B1 := hid_below B1 B4
  clear h
  have hL : L4.length ≤ 140737488355328 := by
    rw [E4.out]; have := intF_length (n := (s.size : Int)) (by omega) (by have := ESl.out; omega); have := HS.out; have := ESl.out
    simp only [List.length_append]; omega
  go_wp2_with fail
  refine (equal_any R4.out R3.out hL).mono ?_
  rintro e w5 h
  obtain ⟨rfl, m, rfl⟩ := h.out
  have HE := Lib.hid (decide_eq_true (show L4 = L3 from by rw [E4.out, E3.out, ES.out, HS.out]))
  rw [HE.out]
  replace R0 : Hid (BReads (w4.drewN m) (w4.drewN m).heap.size A l) := R0
  replace R3 : Hid (BReads (w4.drewN m) (w4.drewN m).heap.size A3 L3) := R3
  replace B1 := Lib.hid (below_drewN B1.out m)
  obtain ⟨w6, hw6⟩ : ∃ w6, w6 = w4.drewN m := ⟨_, rfl⟩
  rw [← hw6] at R0 R3 B1 ⊢
  clear hw6 h hL
  go_wp2_with fail
  have Bc := Lib.hid (bytesWorld_below w6 5 s)
  have Rc := Lib.hid (bytesWorld_reads w6 5 s)
  obtain ⟨w7, hw7⟩ : ∃ w7, w7 = Lib.bytesWorld w6 5 s := ⟨_, rfl⟩
  rw [← hw7] at Bc Rc ⊢
  rw [← ES.out] at Rc
  rw [ESl.out]
  clear hw7
  replace R0 := hid_up R0 Bc
  replace R3 := hid_up R3 Bc
  replace B1 := hid_below B1 Bc
  refine (putBytes_any R0.out Rc.out (Nat.le_refl _) (by omega)).mono ?_
  rintro e w8 h
  obtain ⟨L8, A8, c8, rfl, E8, _, R8, B8⟩ := h.named
  replace R3 := hid_up R3 B8
  replace B1 := hid_below B1 B8
  clear h
  have hL : L8.length ≤ 140737488355328 := by
    rw [E8.out]; have := intF_length (n := (S.length : Int)) (by omega) (by omega)
    simp only [List.length_append]; omega
  go_wp2_with fail
  refine (equal_any R8.out R3.out hL).mono ?_
  rintro e w9 h
  obtain ⟨rfl, m', rfl⟩ := h.out
  have HE2 := Lib.hid (decide_eq_true (show L8 = L3 from by rw [E8.out, E3.out]))
  rw [HE2.out]
  go_wp2
  go_ret
  exact ⟨rfl, below_drewN B1.out _⟩
end Go.Proofs.Ytoeccclaaogihaa
