/- What a reading answers hangs on the bytes from the place on alone. No program in sight. -/
import Derived.Test.YtoeccclaaogihaaStep
namespace Go.Proofs.Ytoeccclaaogihaa
open Go.RowKit

/-- The same reader with bytes ahead. -/
def Rd.shift (a : List UInt8) (r : Rd) : Rd := ⟨a ++ r.l, a.length + r.at_, r.f⟩
theorem shift_drop (a : List UInt8) (r : Rd) : (r.shift a).l.drop (r.shift a).at_ = r.l.drop r.at_ := by
  show (a ++ r.l).drop (a.length + r.at_) = _
  rw [List.drop_append]
  simp
theorem shift_step {α : Type} (a : List UInt8) (r : Rd) (n : α) (x : Except Int (α × Nat)) : (r.shift a).step n x = ((r.step n x).1, (r.step n x).2.shift a) := by
  unfold Rd.step
  by_cases hf : r.f = 0
  · rw [if_pos hf, if_pos (show (r.shift a).f = 0 from hf)]
    cases x with
    | error m => rfl
    | ok y => simp only [Rd.shift, Nat.add_assoc]
  · rw [if_neg hf, if_neg (show ¬ (r.shift a).f = 0 from hf)]
theorem shift_left (a : List UInt8) (r : Rd) : (r.shift a).left = r.left := by
  simp only [Rd.left, Rd.shift, List.length_append]; omega
theorem shift_end (a : List UInt8) (r : Rd) : (r.shift a).end_ = r.end_ := by
  unfold Rd.end_
  rw [shift_left]; rfl
theorem shift_take (a : List UInt8) (r : Rd) (n : Nat) : (r.shift a).take n = ((r.take n).1, (r.take n).2.shift a) := by
  unfold Rd.take; rw [shift_drop, shift_step]
theorem shift_int (a : List UInt8) (r : Rd) (low high : Int) : (r.shift a).int low high = ((r.int low high).1, (r.int low high).2.shift a) := by
  unfold Rd.int; rw [shift_drop, shift_step]
theorem shift_bytes (a : List UInt8) (r : Rd) (most : Int) : (r.shift a).bytes most = ((r.bytes most).1, (r.bytes most).2.shift a) := by
  unfold Rd.bytes; rw [shift_drop, shift_step]
theorem shift_call (a : List UInt8) (r : Rd) (s : Sp) : (r.shift a).call s = ((r.call s).1, (r.call s).2.shift a) := by
  unfold Rd.call
  simp only [shift_take, shift_int, shift_bytes, shift_left, shift_end]
  repeat' split
  all_goals rfl
/-- A byte is taken off the bytes ahead. -/
theorem ahead_take {a b : List UInt8} {i : Nat} (h : i < a.length) : (Rd.take ⟨a ++ b, i, 0⟩ 1).2 = ⟨a ++ b, i + 1, 0⟩ := by
  unfold Rd.take takeF
  simp only
  rw [if_neg (by rw [List.length_drop, List.length_append]; omega)]
  rfl
end Go.Proofs.Ytoeccclaaogihaa
