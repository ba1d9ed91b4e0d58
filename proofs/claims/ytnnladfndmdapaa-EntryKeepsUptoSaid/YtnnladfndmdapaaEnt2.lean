/- The reference's words on kinds, by contract (printed by a program of this claim's own). -/
import Derived.Test.YtnnladfndmdapaaEnt1
namespace Go.Proofs.Ytnnladfndmdapaa
open Go.RowKit

def keyedF (k : Int) : Bool := decide (k = 1 ∨ k = 2 ∨ k = 5)
def valuedF (k : Int) : Bool := decide (k = 1 ∨ k = 5)
def countedF (k : Int) : Bool := decide (k = 3 ∨ k = 4 ∨ k = 6)
def stampedF (k : Int) : Bool := decide (k = 3 ∨ k = 4 ∨ k = 6 ∨ k = 5)
theorem keyed_any {w : World} (k : Int) : Calls Try.prog 60 #[.int .i64 k] w fun e w' => e = .returned (.bool (keyedF k)) ∧ w = w' := by
  by_cases h1 : k = 1
  · subst h1
    go_enter Try.func60, Try.ntmps60
    go_wp2
    go_ret
    exact ⟨rfl, rfl⟩
  by_cases h2 : k = 2
  · subst h2
    go_enter Try.func60, Try.ntmps60
    go_wp2
    go_ret
    exact ⟨rfl, rfl⟩
  by_cases h5 : k = 5
  · subst h5
    go_enter Try.func60, Try.ntmps60
    go_wp2
    go_ret
    exact ⟨rfl, rfl⟩
  have HE := Lib.hid (show keyedF k = false from decide_eq_false (by omega))
  have k1 : (k == 1) = false := by rw [beq_eq_false_iff_ne]; exact h1
  have k2 : (k == 2) = false := by rw [beq_eq_false_iff_ne]; exact h2
  have k5 : (k == 5) = false := by rw [beq_eq_false_iff_ne]; exact h5
  clear h1 h2 h5
  go_enter Try.func60, Try.ntmps60
  go_wp2
  go_ret
  exact ⟨by rw [HE.out]; rfl, rfl⟩
theorem valued_any {w : World} (k : Int) : Calls Try.prog 64 #[.int .i64 k] w fun e w' => e = .returned (.bool (valuedF k)) ∧ w = w' := by
  by_cases h1 : k = 1
  · subst h1
    go_enter Try.func64, Try.ntmps64
    go_wp2
    go_ret
    exact ⟨rfl, rfl⟩
  by_cases h5 : k = 5
  · subst h5
    go_enter Try.func64, Try.ntmps64
    go_wp2
    go_ret
    exact ⟨rfl, rfl⟩
  have HE := Lib.hid (show valuedF k = false from decide_eq_false (by omega))
  have k1 : (k == 1) = false := by rw [beq_eq_false_iff_ne]; exact h1
  have k5 : (k == 5) = false := by rw [beq_eq_false_iff_ne]; exact h5
  clear h1 h5
  go_enter Try.func64, Try.ntmps64
  go_wp2
  go_ret
  exact ⟨by rw [HE.out]; rfl, rfl⟩
theorem counted_any {w : World} (k : Int) : Calls Try.prog 63 #[.int .i64 k] w fun e w' => e = .returned (.bool (countedF k)) ∧ w = w' := by
  by_cases h3 : k = 3
  · subst h3
    go_enter Try.func63, Try.ntmps63
    go_wp2
    go_ret
    exact ⟨rfl, rfl⟩
  by_cases h4 : k = 4
  · subst h4
    go_enter Try.func63, Try.ntmps63
    go_wp2
    go_ret
    exact ⟨rfl, rfl⟩
  by_cases h6 : k = 6
  · subst h6
    go_enter Try.func63, Try.ntmps63
    go_wp2
    go_ret
    exact ⟨rfl, rfl⟩
  have HE := Lib.hid (show countedF k = false from decide_eq_false (by omega))
  have k3 : (k == 3) = false := by rw [beq_eq_false_iff_ne]; exact h3
  have k4 : (k == 4) = false := by rw [beq_eq_false_iff_ne]; exact h4
  have k6 : (k == 6) = false := by rw [beq_eq_false_iff_ne]; exact h6
  clear h3 h4 h6
  go_enter Try.func63, Try.ntmps63
  go_wp2
  go_ret
  exact ⟨by rw [HE.out]; rfl, rfl⟩
theorem stamped_any {w : World} (k : Int) : Calls Try.prog 62 #[.int .i64 k] w fun e w' => e = .returned (.bool (stampedF k)) ∧ w = w' := by
  by_cases h3 : k = 3
  · subst h3
    go_enter Try.func62, Try.ntmps62
    go_wp2_with fail
    refine (counted_any 3).mono ?_
    rintro e w1 ⟨rfl, rfl⟩
    rw [show countedF 3 = true from rfl]
    go_wp2
    go_ret
    exact ⟨rfl, rfl⟩
  by_cases h4 : k = 4
  · subst h4
    go_enter Try.func62, Try.ntmps62
    go_wp2_with fail
    refine (counted_any 4).mono ?_
    rintro e w1 ⟨rfl, rfl⟩
    rw [show countedF 4 = true from rfl]
    go_wp2
    go_ret
    exact ⟨rfl, rfl⟩
  by_cases h5 : k = 5
  · subst h5
    go_enter Try.func62, Try.ntmps62
    go_wp2_with fail
    refine (counted_any 5).mono ?_
    rintro e w1 ⟨rfl, rfl⟩
    rw [show countedF 5 = false from rfl]
    go_wp2
    go_ret
    exact ⟨rfl, rfl⟩
  by_cases h6 : k = 6
  · subst h6
    go_enter Try.func62, Try.ntmps62
    go_wp2_with fail
    refine (counted_any 6).mono ?_
    rintro e w1 ⟨rfl, rfl⟩
    rw [show countedF 6 = true from rfl]
    go_wp2
    go_ret
    exact ⟨rfl, rfl⟩
  have HE := Lib.hid (show stampedF k = false from decide_eq_false (by omega))
  have HC := Lib.hid (show countedF k = false from decide_eq_false (by omega))
  have k3 : (k == 3) = false := by rw [beq_eq_false_iff_ne]; exact h3
  have k4 : (k == 4) = false := by rw [beq_eq_false_iff_ne]; exact h4
  have k5 : (k == 5) = false := by rw [beq_eq_false_iff_ne]; exact h5
  have k6 : (k == 6) = false := by rw [beq_eq_false_iff_ne]; exact h6
  clear h3 h4 h5 h6
  go_enter Try.func62, Try.ntmps62
  go_wp2_with fail
  refine (counted_any k).mono ?_
  rintro e w1 ⟨rfl, rfl⟩
  rw [HC.out]
  go_wp2
  go_ret
  exact ⟨by rw [HE.out]; rfl, rfl⟩
end Go.Proofs.Ytnnladfndmdapaa
