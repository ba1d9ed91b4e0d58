/- The reference's Check at some kinds, by contract (printed by a program of this claim's own). -/
import Derived.Test.YtnnladfndmdapaaEnt2
namespace Go.Proofs.Ytnnladfndmdapaa
open Go.RowKit
set_option maxRecDepth 100000 in
set_option maxHeartbeats 3200000 in
theorem rcheck_m_true_any {w : World} {A : Option Addr} {c : Nat} (k : Int) (hm : k = 3 ∨ k = 4 ∨ k = 6) (s : Int) (n : Int) (key : ByteArray) (v : List UInt8) (hks : key.size ≤ 140737488355328) (hvl : v.length ≤ 140737488355328) :
    Calls Try.prog 21 #[.agg (En.cells ⟨k, s, n, key, v, true⟩ A c)] w fun e w' => e = .returned (.int .i64 (En.chk ⟨k, s, n, key, v, true⟩)) ∧ Below w.heap.size w w' := by
  unfold En.cells
  simp only
  have HM := Lib.hid hm
  have Hkeyed := Lib.hid (show keyedF k = false from decide_eq_false (by omega))
  have Hvalued := Lib.hid (show valuedF k = false from decide_eq_false (by omega))
  have Hcounted := Lib.hid (show countedF k = true from decide_eq_true hm)
  have Hstamped := Lib.hid (show stampedF k = true from decide_eq_true (by omega))
  have hm1 : 1 ≤ k := by omega
  have hm6 : k ≤ 6 := by omega
  have hm5 : (k != 5) = true := by rw [bne_iff_ne]; omega
  clear hm
  go_enter Try.func21, Try.ntmps21
  go_wp2_with (first | (go_at_call 60; refine (keyed_any k).mono ?_; rintro e w1 ⟨rfl, rfl⟩; rw [Hkeyed.out]) | (go_at_call 64; refine (valued_any k).mono ?_; rintro e w1 ⟨rfl, rfl⟩; rw [Hvalued.out]) | (go_at_call 62; refine (stamped_any k).mono ?_; rintro e w1 ⟨rfl, rfl⟩; rw [Hstamped.out]) | (go_at_call 63; refine (counted_any k).mono ?_; rintro e w1 ⟨rfl, rfl⟩; rw [Hcounted.out]))
  all_goals go_ret
  all_goals (refine ⟨?_, (Below.refl _ _).alloc (Nat.le_refl _) _⟩)
  all_goals (first | (rw [En.chk_no (by rw [may_m HM.out]; rintro ⟨q0, q1, q2, q3, q4, q5, q6⟩; first | omega | cases q5)]; rfl) | (rw [En.chk_ok (by rw [may_m HM.out]; exact ⟨by omega, by omega, by omega, by omega, by omega, rfl, by omega⟩)]; rfl))
set_option maxRecDepth 100000 in
set_option maxHeartbeats 3200000 in
theorem rcheck_m_false_any {w : World} {A : Option Addr} {c : Nat} (k : Int) (hm : k = 3 ∨ k = 4 ∨ k = 6) (s : Int) (n : Int) (key : ByteArray) (v : List UInt8) (hks : key.size ≤ 140737488355328) (hvl : v.length ≤ 140737488355328) :
    Calls Try.prog 21 #[.agg (En.cells ⟨k, s, n, key, v, false⟩ A c)] w fun e w' => e = .returned (.int .i64 (En.chk ⟨k, s, n, key, v, false⟩)) ∧ Below w.heap.size w w' := by
  unfold En.cells
  simp only
  have HM := Lib.hid hm
  have Hkeyed := Lib.hid (show keyedF k = false from decide_eq_false (by omega))
  have Hvalued := Lib.hid (show valuedF k = false from decide_eq_false (by omega))
  have Hcounted := Lib.hid (show countedF k = true from decide_eq_true hm)
  have Hstamped := Lib.hid (show stampedF k = true from decide_eq_true (by omega))
  have hm1 : 1 ≤ k := by omega
  have hm6 : k ≤ 6 := by omega
  have hm5 : (k != 5) = true := by rw [bne_iff_ne]; omega
  clear hm
  go_enter Try.func21, Try.ntmps21
  go_wp2_with (first | (go_at_call 60; refine (keyed_any k).mono ?_; rintro e w1 ⟨rfl, rfl⟩; rw [Hkeyed.out]) | (go_at_call 64; refine (valued_any k).mono ?_; rintro e w1 ⟨rfl, rfl⟩; rw [Hvalued.out]) | (go_at_call 62; refine (stamped_any k).mono ?_; rintro e w1 ⟨rfl, rfl⟩; rw [Hstamped.out]) | (go_at_call 63; refine (counted_any k).mono ?_; rintro e w1 ⟨rfl, rfl⟩; rw [Hcounted.out]))
  all_goals go_ret
  all_goals (refine ⟨?_, (Below.refl _ _).alloc (Nat.le_refl _) _⟩)
  all_goals (first | (rw [En.chk_no (by rw [may_m HM.out]; rintro ⟨q0, q1, q2, q3, q4, q5, q6⟩; first | omega | cases q5)]; rfl) | (rw [En.chk_ok (by rw [may_m HM.out]; exact ⟨by omega, by omega, by omega, by omega, by omega, rfl, by omega⟩)]; rfl))
end Go.Proofs.Ytnnladfndmdapaa
