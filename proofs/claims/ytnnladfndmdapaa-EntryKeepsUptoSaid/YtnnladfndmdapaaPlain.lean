/- Plain words on bytes and numbers: the short form, the fold, fixed widths. No program in sight. -/
import Derived.Laws.BitsAllLaws
import Derived.Laws.BitsLemmas
import Derived.RowKit
namespace Go.Proofs.Ytnnladfndmdapaa
open Go.RowKit

/-- The short form of a fold. -/
def shortF (u : Nat) : List UInt8 := if u < 128 then [UInt8.ofNat u] else UInt8.ofNat (u % 128 + 128) :: shortF (u / 128)
termination_by u
decreasing_by omega
theorem shortF_small {u : Nat} (h : u < 128) : shortF u = [UInt8.ofNat u] := by unfold shortF; rw [if_pos h]
theorem shortF_big {u : Nat} (h : 128 ≤ u) : shortF u = UInt8.ofNat (u % 128 + 128) :: shortF (u / 128) := by
  conv => lhs; unfold shortF
  rw [if_neg (by omega)]
theorem shortF_length_le (k : Nat) : ∀ u, u < 128 ^ (k + 1) → (shortF u).length ≤ k + 1 := by
  induction k with
  | zero => intro u hu; rw [shortF_small (by simpa using hu)]; simp
  | succ k ih =>
    intro u hu
    by_cases h : u < 128
    · rw [shortF_small h]; simp
    · rw [shortF_big (by omega)]
      have := ih (u / 128) (by rw [Nat.div_lt_iff_lt_mul (by omega)]; rw [Nat.pow_succ] at hu; omega)
      simp only [List.length_cons]; omega
theorem shortF_length {u : Nat} (h : u < 18446744073709551616) : (shortF u).length ≤ 10 := shortF_length_le 9 u (by omega)
theorem shortF_pos (u : Nat) : 0 < (shortF u).length := by
  by_cases h : u < 128
  · rw [shortF_small h]; simp
  · rw [shortF_big (by omega)]; simp

/-- The fold of an int. -/
def foldI (n : Int) : Nat := if 0 ≤ n then (2 * n).toNat else (2 * (-(n + 1)) + 1).toNat
theorem foldI_lt {n : Int} (h0 : -9223372036854775808 ≤ n) (h1 : n ≤ 9223372036854775807) : foldI n < 18446744073709551616 := by
  unfold foldI; split <;> omega
theorem foldI_nonneg {n : Int} (h : 0 ≤ n) : ((foldI n : Nat) : Int) = 2 * n := by unfold foldI; rw [if_pos h]; omega
theorem foldI_neg {n : Int} (h : n < 0) : ((foldI n : Nat) : Int) = 2 * (-(n + 1)) + 1 := by unfold foldI; rw [if_neg (by omega)]; omega
/-- The short form of an int. -/
def intF (n : Int) : List UInt8 := shortF (foldI n)
theorem intF_length {n : Int} (h0 : -9223372036854775808 ≤ n) (h1 : n ≤ 9223372036854775807) : (intF n).length ≤ 10 := shortF_length (foldI_lt h0 h1)

theorem wrap_u64 (n : Int) : IntKind.u64.wrap n = n % 18446744073709551616 := by simp [IntKind.wrap, IntKind.bits, IntKind.signed]
theorem u64_ones0 (b : Nat) (hb : b < 2 ^ 64) : (2 ^ 64 - 1) ^^^ b = 2 ^ 64 - 1 - b := by
  apply Nat.eq_of_testBit_eq
  intro i
  rw [Nat.testBit_xor, Nat.testBit_two_pow_sub_one, show 2 ^ 64 - 1 - b = 2 ^ 64 - (b + 1) by omega, Nat.testBit_two_pow_sub_succ hb]
  by_cases hi : i < 64
  · simp [hi]
  · have : b.testBit i = false := Nat.testBit_lt_two_pow (Nat.lt_of_lt_of_le hb (Nat.pow_le_pow_right (by decide) (by omega)))
    simp [hi, this]
theorem u64_ones (b : Nat) (hb : b < 18446744073709551616) : (18446744073709551615 : Nat) ^^^ b = 18446744073709551615 - b := u64_ones0 b hb
theorem u64_ones' (b : Nat) (hb : b < 18446744073709551616) : b ^^^ (18446744073709551615 : Nat) = 18446744073709551615 - b := by rw [Nat.xor_comm]; exact u64_ones b hb
/-- uint64(n << 1) ^ uint64(n >> 63) is the fold. -/
theorem fold_bits {n : Int} (h0 : -9223372036854775808 ≤ n) (h1 : n ≤ 9223372036854775807) :
    bits .xor .u64 (IntKind.u64.wrap (wrap64 (n * 2))) (IntKind.u64.wrap (n / 9223372036854775808)) = (foldI n : Nat) := by
  rw [wrap_u64, wrap_u64]
  unfold wrap64
  by_cases hn : 0 ≤ n
  · rw [show n / 9223372036854775808 = 0 from by omega]
    have e : ((n * 2 + 9223372036854775808) % 18446744073709551616 - 9223372036854775808) % 18446744073709551616 = ((foldI n : Nat) : Int) := by rw [foldI_nonneg hn]; omega
    rw [e, show ((0 : Int) % 18446744073709551616) = ((0 : Nat) : Int) from by omega, u64_xor_nat _ 0 (foldI_lt h0 h1) (by omega), Nat.xor_zero]
  · rw [show n / 9223372036854775808 = -1 from by omega]
    have e : ((n * 2 + 9223372036854775808) % 18446744073709551616 - 9223372036854775808) % 18446744073709551616 = ((18446744073709551615 - foldI n : Nat) : Int) := by
      have := foldI_lt h0 h1
      have := foldI_neg (n := n) (by omega)
      omega
    rw [e, show ((-1 : Int) % 18446744073709551616) = ((18446744073709551615 : Nat) : Int) from by omega, u64_xor_nat _ _ (by omega) (by omega), u64_ones' _ (by omega)]
    have := foldI_lt h0 h1
    omega
theorem or128 (u : Nat) : bits .or .u8 ((u : Int) % 256) 128 = ((u % 128 + 128 : Nat) : Int) := by
  rw [show ((u : Int) % 256) = ((u % 256 : Nat) : Int) from by omega, show (128 : Int) = ((128 : Nat) : Int) from rfl, u8_or_nat _ 128 (by omega) (by omega)]
  have h : u % 256 = u % 128 + 128 * (u / 128 % 2) := by omega
  congr 1
  rcases (show u / 128 % 2 = 0 ∨ u / 128 % 2 = 1 from by omega) with e | e
  · rw [h, e, Nat.mul_zero, Nat.add_zero, Nat.or_comm, nat_join 7 128 (u % 128) (by decide) (by omega)]; omega
  · rw [h, e, Nat.mul_one, show u % 128 + 128 = 128 + u % 128 from by omega, ← nat_join 7 128 (u % 128) (by decide) (by omega)]
    rw [Nat.or_comm, ← Nat.or_assoc, Nat.or_self]

/-- The lowest k bytes of v, the highest first. -/
def beN : Nat → Nat → List UInt8
  | 0, _ => []
  | k + 1, v => UInt8.ofNat (v / 256 ^ k % 256) :: beN k v
theorem beN_length (k v : Nat) : (beN k v).length = k := by
  induction k with
  | zero => rfl
  | succ k ih => simp [beN, ih]
theorem u8_int (n : Nat) (h : n < 256) : ((UInt8.ofNat n).toNat : Int) = (n : Int) := by
  rw [UInt8.toNat_ofNat_of_lt' (by omega)]
end Go.Proofs.Ytnnladfndmdapaa
