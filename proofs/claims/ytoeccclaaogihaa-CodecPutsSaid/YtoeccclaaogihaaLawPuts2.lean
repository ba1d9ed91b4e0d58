/- CodecPuts: the law's walk (printed by a program of this claim's own). -/
import Derived.Test.YtoeccclaaogihaaLawPuts
namespace Go.Proofs.Ytoeccclaaogihaa
open Go.RowKit
theorem beN_mod (k : Nat) : ∀ (v m : Nat), k ≤ m → beN k (v % 256 ^ m) = beN k v := by
  induction k with
  | zero => intros; rfl
  | succ k ih =>
    intro v m hm
    have h : v % 256 ^ m / 256 ^ k % 256 = v / 256 ^ k % 256 := by
      obtain ⟨d, rfl⟩ : ∃ d, m = k + (d + 1) := ⟨m - k - 1, by omega⟩
      rw [Nat.pow_add, Nat.mod_mul_right_div_self, Nat.pow_succ, Nat.mul_comm (256 ^ d), Nat.mod_mul_right_mod]
    rw [beN, beN, h, ih v m (by omega)]
theorem codecPuts_walk {w : World} {c : Nat} {A : Option Addr} {l : List UInt8} (hr : BReads w w.heap.size A l) (hl : l.length ≤ 140737488351232) (n : Int) (h0 : 0 ≤ n) (h1 : n ≤ 18446744073709551615) :
    Calls Try.prog 9 #[.slice A l.length c, .int .u64 n] w (LawTrue w) := by
  obtain ⟨v, rfl⟩ := Int.eq_ofNat_of_zero_le h0
  have hv : (v : Int) < 18446744073709551616 := by omega
  have HV := Lib.hid (show v < 18446744073709551616 from by omega)
  have HR := Lib.hid (hr.below ((Below.refl _ w).alloc (Nat.le_refl _) (.cells #[] 5)))
  have R0 := Lib.hid hr
  have M8 := Lib.hid (show (v : Int) % 256 = ((v % 256 : Nat) : Int) from by omega)
  have M16 := Lib.hid (show (v : Int) % 65536 = ((v % 65536 : Nat) : Int) from by omega)
  have M32 := Lib.hid (show (v : Int) % 4294967296 = ((v % 4294967296 : Nat) : Int) from by omega)
  have N16 := Lib.hid (show IntKind.u16.wrap (v : Int) = ((v % 65536 : Nat) : Int) from by rw [IntKind.wrap_u16]; omega)
  have N32 := Lib.hid (show IntKind.u32.wrap (v : Int) = ((v % 4294967296 : Nat) : Int) from by rw [IntKind.wrap_u32']; omega)
  clear hr h0 h1
  go_enter Try.func9, Try.ntmps9
  go_wp2_with (at_builtin; refine Stop.of ?_)
  refine ⟨append_bytes (empty_owns w) HR.out.src (by simp only [List.length_nil]; omega) (by simp) rfl rfl rfl rfl ?_⟩
  intro v1 w1 ho hg _
  have B1 := Lib.hid (show Below w.heap.size w w1 from below_grown ((Below.refl _ _).alloc (Nat.le_refl _) _) (empty_owns w) hg)
  rw [List.nil_append] at ho
  obtain ⟨A1, c1, rfl, _, hr1⟩ := ho.slice
  have R1 := Lib.hid hr1
  replace R0 := hid_up R0 B1
  clear ho hg hr1
  go_wp2_with fail
  first | rw [M8.out] | rw [M8.out]
  refine (put8_any (v % 256) R0.out (by omega) (by omega)).mono ?_
  rintro e wa0 h
  obtain ⟨L2, A2, c2, rfl, E2, _, R2, B2⟩ := h.named
  replace R0 := hid_up R0 B2
  replace R1 := hid_up R1 B2
  replace B1 := hid_below B1 B2
  clear h
  go_wp2_with fail
  refine (refPut_any v 1 R1.out HV.out (by omega) (by omega)).mono ?_
  rintro e wb0 h
  obtain ⟨L3, A3, c3, rfl, E3, _, R3, B3⟩ := h.named
  replace R0 := hid_up R0 B3
  replace R1 := hid_up R1 B3
  replace R2 := hid_up R2 B3
  replace B1 := hid_below B1 B3
  clear h
  have hL : L2.length ≤ 140737488355328 := by
    rw [E2.out, List.length_append, beN_length]; omega
  go_wp2_with fail
  refine (equal_any R2.out R3.out hL).mono ?_
  rintro e wc0 h
  obtain ⟨rfl, m, rfl⟩ := h.out
  have HE := Lib.hid (decide_eq_true (show L2 = L3 from by rw [E2.out, E3.out, show (256 : Nat) = 256 ^ 1 from rfl, beN_mod 1 v 1 (Nat.le_refl _)]))
  rw [HE.out]
  replace R0 : Hid (BReads (wb0.drewN m) (wb0.drewN m).heap.size A l) := R0
  replace R1 : Hid (BReads (wb0.drewN m) (wb0.drewN m).heap.size A1 l) := R1
  replace B1 := Lib.hid (below_drewN B1.out m)
  obtain ⟨wq0, hw⟩ : ∃ x, x = wb0.drewN m := ⟨_, rfl⟩
  rw [← hw] at R0 R1 B1 ⊢
  clear hw h hL HE E2 E3 R2 R3 B2 B3
  go_wp2_with fail
  first | rw [M16.out] | rw [N16.out]
  refine (put16_any (v % 65536) R0.out (by omega) (by omega)).mono ?_
  rintro e wa1 h
  obtain ⟨L2, A2, c2, rfl, E2, _, R2, B2⟩ := h.named
  replace R0 := hid_up R0 B2
  replace R1 := hid_up R1 B2
  replace B1 := hid_below B1 B2
  clear h
  go_wp2_with fail
  refine (refPut_any v 2 R1.out HV.out (by omega) (by omega)).mono ?_
  rintro e wb1 h
  obtain ⟨L3, A3, c3, rfl, E3, _, R3, B3⟩ := h.named
  replace R0 := hid_up R0 B3
  replace R1 := hid_up R1 B3
  replace R2 := hid_up R2 B3
  replace B1 := hid_below B1 B3
  clear h
  have hL : L2.length ≤ 140737488355328 := by
    rw [E2.out, List.length_append, beN_length]; omega
  go_wp2_with fail
  refine (equal_any R2.out R3.out hL).mono ?_
  rintro e wc1 h
  obtain ⟨rfl, m, rfl⟩ := h.out
  have HE := Lib.hid (decide_eq_true (show L2 = L3 from by rw [E2.out, E3.out, show (65536 : Nat) = 256 ^ 2 from rfl, beN_mod 2 v 2 (Nat.le_refl _)]))
  rw [HE.out]
  replace R0 : Hid (BReads (wb1.drewN m) (wb1.drewN m).heap.size A l) := R0
  replace R1 : Hid (BReads (wb1.drewN m) (wb1.drewN m).heap.size A1 l) := R1
  replace B1 := Lib.hid (below_drewN B1.out m)
  obtain ⟨wq1, hw⟩ : ∃ x, x = wb1.drewN m := ⟨_, rfl⟩
  rw [← hw] at R0 R1 B1 ⊢
  clear hw h hL HE E2 E3 R2 R3 B2 B3
  go_wp2_with fail
  first | rw [M16.out] | rw [N16.out]
  refine (putW_any (v % 65536) R0.out (by omega) (by omega)).mono ?_
  rintro e wa2 h
  obtain ⟨L2, A2, c2, rfl, E2, _, R2, B2⟩ := h.named
  replace R0 := hid_up R0 B2
  replace R1 := hid_up R1 B2
  replace B1 := hid_below B1 B2
  clear h
  go_wp2_with fail
  refine (refPut_any v 2 R1.out HV.out (by omega) (by omega)).mono ?_
  rintro e wb2 h
  obtain ⟨L3, A3, c3, rfl, E3, _, R3, B3⟩ := h.named
  replace R0 := hid_up R0 B3
  replace R1 := hid_up R1 B3
  replace R2 := hid_up R2 B3
  replace B1 := hid_below B1 B3
  clear h
  have hL : L2.length ≤ 140737488355328 := by
    rw [E2.out, List.length_append, beN_length]; omega
  go_wp2_with fail
  refine (equal_any R2.out R3.out hL).mono ?_
  rintro e wc2 h
  obtain ⟨rfl, m, rfl⟩ := h.out
  have HE := Lib.hid (decide_eq_true (show L2 = L3 from by rw [E2.out, E3.out, show (65536 : Nat) = 256 ^ 2 from rfl, beN_mod 2 v 2 (Nat.le_refl _)]))
  rw [HE.out]
  replace R0 : Hid (BReads (wb2.drewN m) (wb2.drewN m).heap.size A l) := R0
  replace R1 : Hid (BReads (wb2.drewN m) (wb2.drewN m).heap.size A1 l) := R1
  replace B1 := Lib.hid (below_drewN B1.out m)
  obtain ⟨wq2, hw⟩ : ∃ x, x = wb2.drewN m := ⟨_, rfl⟩
  rw [← hw] at R0 R1 B1 ⊢
  clear hw h hL HE E2 E3 R2 R3 B2 B3
  go_wp2_with fail
  first | rw [M32.out] | rw [N32.out]
  refine (put32_any (v % 4294967296) R0.out (by omega) (by omega)).mono ?_
  rintro e wa3 h
  obtain ⟨L2, A2, c2, rfl, E2, _, R2, B2⟩ := h.named
  replace R0 := hid_up R0 B2
  replace R1 := hid_up R1 B2
  replace B1 := hid_below B1 B2
  clear h
  go_wp2_with fail
  refine (refPut_any v 4 R1.out HV.out (by omega) (by omega)).mono ?_
  rintro e wb3 h
  obtain ⟨L3, A3, c3, rfl, E3, _, R3, B3⟩ := h.named
  replace R0 := hid_up R0 B3
  replace R1 := hid_up R1 B3
  replace R2 := hid_up R2 B3
  replace B1 := hid_below B1 B3
  clear h
  have hL : L2.length ≤ 140737488355328 := by
    rw [E2.out, List.length_append, beN_length]; omega
  go_wp2_with fail
  refine (equal_any R2.out R3.out hL).mono ?_
  rintro e wc3 h
  obtain ⟨rfl, m, rfl⟩ := h.out
  have HE := Lib.hid (decide_eq_true (show L2 = L3 from by rw [E2.out, E3.out, show (4294967296 : Nat) = 256 ^ 4 from rfl, beN_mod 4 v 4 (Nat.le_refl _)]))
  rw [HE.out]
  replace R0 : Hid (BReads (wb3.drewN m) (wb3.drewN m).heap.size A l) := R0
  replace R1 : Hid (BReads (wb3.drewN m) (wb3.drewN m).heap.size A1 l) := R1
  replace B1 := Lib.hid (below_drewN B1.out m)
  obtain ⟨wq3, hw⟩ : ∃ x, x = wb3.drewN m := ⟨_, rfl⟩
  rw [← hw] at R0 R1 B1 ⊢
  clear hw h hL HE E2 E3 R2 R3 B2 B3
  go_wp2_with fail
  refine (put64_any v R0.out (by exact HV.out) (by omega)).mono ?_
  rintro e wa4 h
  obtain ⟨L2, A2, c2, rfl, E2, _, R2, B2⟩ := h.named
  replace R0 := hid_up R0 B2
  replace R1 := hid_up R1 B2
  replace B1 := hid_below B1 B2
  clear h
  go_wp2_with fail
  refine (refPut_any v 8 R1.out HV.out (by omega) (by omega)).mono ?_
  rintro e wb4 h
  obtain ⟨L3, A3, c3, rfl, E3, _, R3, B3⟩ := h.named
  replace R0 := hid_up R0 B3
  replace R1 := hid_up R1 B3
  replace R2 := hid_up R2 B3
  replace B1 := hid_below B1 B3
  clear h
  have hL : L2.length ≤ 140737488355328 := by
    rw [E2.out, List.length_append, beN_length]; omega
  go_wp2_with fail
  refine (equal_any R2.out R3.out hL).mono ?_
  rintro e wc4 h
  obtain ⟨rfl, m, rfl⟩ := h.out
  have HE := Lib.hid (decide_eq_true (show L2 = L3 from by rw [E2.out, E3.out]))
  rw [HE.out]
  replace R0 : Hid (BReads (wb4.drewN m) (wb4.drewN m).heap.size A l) := R0
  replace R1 : Hid (BReads (wb4.drewN m) (wb4.drewN m).heap.size A1 l) := R1
  replace B1 := Lib.hid (below_drewN B1.out m)
  obtain ⟨wq4, hw⟩ : ∃ x, x = wb4.drewN m := ⟨_, rfl⟩
  rw [← hw] at R0 R1 B1 ⊢
  clear hw h hL HE E2 E3 R2 R3 B2 B3
  go_wp2
  go_ret
  exact ⟨rfl, B1.out⟩
end Go.Proofs.Ytoeccclaaogihaa
