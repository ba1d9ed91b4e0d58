/- The reference's Check at some kinds, by contract (printed by a program of this claim's own). -/
import Derived.Test.YtnnladfndmdapaaEnt2
namespace Go.Proofs.Ytnnladfndmdapaa
open Go.RowKit
set_option maxRecDepth 100000 in
set_option maxHeartbeats 3200000 in
theorem rcheck_1_true_any {w : World} {A : Option Addr} {c : Nat} (s : Int) (n : Int) (key : ByteArray) (v : List UInt8) (hks : key.size ≤ 140737488355328) (hvl : v.length ≤ 140737488355328) :
    Calls Try.prog 21 #[.agg (En.cells ⟨1, s, n, key, v, true⟩ A c)] w fun e w' => e = .returned (.int .i64 (En.chk ⟨1, s, n, key, v, true⟩)) ∧ Below w.heap.size w w' := by
  unfold En.cells
  simp only
  go_enter Try.func21, Try.ntmps21
  go_wp2_with (first | (go_at_call 60; refine (keyed_any 1).mono ?_; rintro e w1 ⟨rfl, rfl⟩; rw [show keyedF 1 = true from rfl]) | (go_at_call 64; refine (valued_any 1).mono ?_; rintro e w1 ⟨rfl, rfl⟩; rw [show valuedF 1 = true from rfl]) | (go_at_call 62; refine (stamped_any 1).mono ?_; rintro e w1 ⟨rfl, rfl⟩; rw [show stampedF 1 = false from rfl]) | (go_at_call 63; refine (counted_any 1).mono ?_; rintro e w1 ⟨rfl, rfl⟩; rw [show countedF 1 = false from rfl]))
  all_goals go_ret
  all_goals (refine ⟨?_, (Below.refl _ _).alloc (Nat.le_refl _) _⟩)
  all_goals (first | (rw [En.chk_no (by rw [may_1]; rintro ⟨q0, q1, q2, q3, q4, q5⟩; first | omega | cases q4)]; rfl) | (rw [En.chk_ok (by rw [may_1]; exact ⟨by omega, by omega, by omega, rfl, rfl, by omega⟩)]; rfl))
set_option maxRecDepth 100000 in
set_option maxHeartbeats 3200000 in
theorem rcheck_1_false_z {w : World} {A : Option Addr} {c : Nat} (s : Int) (key : ByteArray) (v : List UInt8) (hks : key.size ≤ 140737488355328) (hvl : v.length ≤ 140737488355328) :
    Calls Try.prog 21 #[.agg (En.cells ⟨1, s, 0, key, v, false⟩ A c)] w fun e w' => e = .returned (.int .i64 (En.chk ⟨1, s, 0, key, v, false⟩)) ∧ Below w.heap.size w w' := by
  unfold En.cells
  simp only
  go_enter Try.func21, Try.ntmps21
  go_wp2_with (first | (go_at_call 60; refine (keyed_any 1).mono ?_; rintro e w1 ⟨rfl, rfl⟩; rw [show keyedF 1 = true from rfl]) | (go_at_call 64; refine (valued_any 1).mono ?_; rintro e w1 ⟨rfl, rfl⟩; rw [show valuedF 1 = true from rfl]) | (go_at_call 62; refine (stamped_any 1).mono ?_; rintro e w1 ⟨rfl, rfl⟩; rw [show stampedF 1 = false from rfl]) | (go_at_call 63; refine (counted_any 1).mono ?_; rintro e w1 ⟨rfl, rfl⟩; rw [show countedF 1 = false from rfl]))
  all_goals go_ret
  all_goals (refine ⟨?_, (Below.refl _ _).alloc (Nat.le_refl _) _⟩)
  all_goals (first | (rw [En.chk_no (by rw [may_1]; rintro ⟨q0, q1, q2, q3, q4, q5⟩; first | omega | cases q4)]; rfl) | (rw [En.chk_ok (by rw [may_1]; exact ⟨by omega, by omega, by omega, rfl, rfl, by omega⟩)]; rfl))
set_option maxRecDepth 100000 in
set_option maxHeartbeats 3200000 in
theorem rcheck_1_false_nz {w : World} {A : Option Addr} {c : Nat} (s : Int) (n : Int) (key : ByteArray) (v : List UInt8) (hks : key.size ≤ 140737488355328) (hvl : v.length ≤ 140737488355328) (hn : ¬ n = 0) :
    Calls Try.prog 21 #[.agg (En.cells ⟨1, s, n, key, v, false⟩ A c)] w fun e w' => e = .returned (.int .i64 (En.chk ⟨1, s, n, key, v, false⟩)) ∧ Below w.heap.size w w' := by
  unfold En.cells
  simp only
  have hN0 : (n != 0) = true := by rw [bne_iff_ne]; exact hn
  go_enter Try.func21, Try.ntmps21
  go_wp2_with (first | (go_at_call 60; refine (keyed_any 1).mono ?_; rintro e w1 ⟨rfl, rfl⟩; rw [show keyedF 1 = true from rfl]) | (go_at_call 64; refine (valued_any 1).mono ?_; rintro e w1 ⟨rfl, rfl⟩; rw [show valuedF 1 = true from rfl]) | (go_at_call 62; refine (stamped_any 1).mono ?_; rintro e w1 ⟨rfl, rfl⟩; rw [show stampedF 1 = false from rfl]) | (go_at_call 63; refine (counted_any 1).mono ?_; rintro e w1 ⟨rfl, rfl⟩; rw [show countedF 1 = false from rfl]))
  all_goals go_ret
  all_goals (refine ⟨?_, (Below.refl _ _).alloc (Nat.le_refl _) _⟩)
  all_goals (first | (rw [En.chk_no (by rw [may_1]; rintro ⟨q0, q1, q2, q3, q4, q5⟩; first | omega | cases q4)]; rfl) | (rw [En.chk_ok (by rw [may_1]; exact ⟨by omega, by omega, by omega, rfl, rfl, by omega⟩)]; rfl))
end Go.Proofs.Ytnnladfndmdapaa
