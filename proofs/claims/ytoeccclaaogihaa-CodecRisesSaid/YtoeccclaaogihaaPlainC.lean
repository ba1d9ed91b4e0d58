/- Plain words on the order of bytes. No program in sight. -/
import Derived.Test.YtoeccclaaogihaaPlain
namespace Go.Proofs.Ytoeccclaaogihaa
open Go.RowKit

def ordI (x y : Nat) : Int := if x < y then -1 else if y < x then 1 else 0
def cmpF : List UInt8 → List UInt8 → Int
  | [], [] => 0
  | [], _ :: _ => -1
  | _ :: _, [] => 1
  | a :: l, b :: r => if ordI a.toNat b.toNat = 0 then cmpF l r else ordI a.toNat b.toNat
theorem ordI_zero {x y : Nat} : ordI x y = 0 ↔ x = y := by
  unfold ordI
  split
  · constructor <;> omega
  · split
    · constructor <;> omega
    · constructor <;> omega
theorem ordI_split (p a b c d : Nat) (hb : b < p) (hd : d < p) : ordI (a * p + b) (c * p + d) = if ordI a c = 0 then ordI b d else ordI a c := by
  by_cases h : a = c
  · subst h
    rw [if_pos (ordI_zero.2 rfl)]
    unfold ordI
    simp only [Nat.add_lt_add_iff_left]
  · rw [if_neg (fun e => h (ordI_zero.1 e))]
    unfold ordI
    rcases Nat.lt_or_ge a c with hac | hac
    · have h1 : (a + 1) * p ≤ c * p := Nat.mul_le_mul_right p hac
      rw [Nat.add_mul] at h1
      rw [if_pos (by omega), if_pos hac]
    · have h1 : (c + 1) * p ≤ a * p := Nat.mul_le_mul_right p (by omega)
      rw [Nat.add_mul] at h1
      rw [if_neg (by omega), if_pos (by omega), if_neg (by omega), if_pos (by omega)]
theorem cmpF_beN (k u v : Nat) : cmpF (beN k u) (beN k v) = ordI (u % 256 ^ k) (v % 256 ^ k) := by
  induction k with
  | zero => simp [beN, cmpF, ordI, Nat.mod_one]
  | succ k ih =>
    have hp : 0 < 256 ^ k := Nat.pow_pos (by decide)
    have hu : u % 256 ^ (k + 1) = u / 256 ^ k % 256 * 256 ^ k + u % 256 ^ k := by
      rw [Nat.pow_succ, Nat.mod_mul, Nat.mul_comm (256 ^ k), Nat.add_comm]
    have hv : v % 256 ^ (k + 1) = v / 256 ^ k % 256 * 256 ^ k + v % 256 ^ k := by
      rw [Nat.pow_succ, Nat.mod_mul, Nat.mul_comm (256 ^ k), Nat.add_comm]
    rw [hu, hv, ordI_split _ _ _ _ _ (Nat.mod_lt _ hp) (Nat.mod_lt _ hp), ← ih]
    have h1 : (UInt8.ofNat (u / 256 ^ k % 256)).toNat = u / 256 ^ k % 256 := by simp
    have h2 : (UInt8.ofNat (v / 256 ^ k % 256)).toNat = v / 256 ^ k % 256 := by simp
    simp only [beN, cmpF, h1, h2]
theorem cmpF_step {a b : List UInt8} {I : Nat} (ha : I < a.length) (hb : I < b.length) : cmpF (a.drop I) (b.drop I) = if ordI a[I].toNat b[I].toNat = 0 then cmpF (a.drop (I + 1)) (b.drop (I + 1)) else ordI a[I].toNat b[I].toNat := by
  rw [List.drop_eq_getElem_cons ha, List.drop_eq_getElem_cons hb, cmpF]
theorem cmpF_long {a b : List UInt8} {I : Nat} (ha : I < a.length) (hb : b.length ≤ I) : cmpF (a.drop I) (b.drop I) = 1 := by
  rw [List.drop_eq_getElem_cons ha, List.drop_of_length_le hb, cmpF]
theorem cmpF_short {a b : List UInt8} {I : Nat} (ha : a.length ≤ I) (hb : I < b.length) : cmpF (a.drop I) (b.drop I) = -1 := by
  rw [List.drop_eq_getElem_cons hb, List.drop_of_length_le ha, cmpF]
theorem cmpF_end {a b : List UInt8} {I : Nat} (ha : a.length ≤ I) (hb : b.length ≤ I) : cmpF (a.drop I) (b.drop I) = 0 := by
  rw [List.drop_of_length_le hb, List.drop_of_length_le ha, cmpF]
end Go.Proofs.Ytoeccclaaogihaa
