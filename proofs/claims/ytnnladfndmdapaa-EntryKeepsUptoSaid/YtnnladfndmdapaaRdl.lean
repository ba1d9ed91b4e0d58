/- The plain reader: bounds. No program in sight. -/
import Derived.Test.YtnnladfndmdapaaRdr5
namespace Go.Proofs.Ytnnladfndmdapaa
open Go.RowKit

theorem Rd.take_lt (r : Rd) (n : Nat) : (r.take n).1 < 256 ^ n := by
  unfold Rd.take Rd.step
  by_cases hf : r.f = 0
  · rw [if_pos hf]
    cases h : takeF n (r.l.drop r.at_) with
    | error m => exact Nat.pow_pos (by decide)
    | ok x => exact (takeF_lt h).1
  · rw [if_neg hf]; exact Nat.pow_pos (by decide)

theorem Rd.step_l {α : Type} (r : Rd) (n : α) (x : Except Int (α × Nat)) : (r.step n x).2.l = r.l := by
  unfold Rd.step
  split
  · split <;> rfl
  · rfl
theorem Rd.bytes_len (r : Rd) (m : Int) : (r.bytes m).1.length ≤ r.l.length := by
  unfold Rd.bytes Rd.step
  split
  · cases hb : blockF m (r.l.drop r.at_) with
    | error e => exact Nat.zero_le _
    | ok x =>
      have := (blockF_len hb).1
      rw [List.length_drop] at this
      show x.1.length ≤ _
      omega
  · exact Nat.zero_le _
end Go.Proofs.Ytnnladfndmdapaa
