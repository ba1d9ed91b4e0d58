/- Plain words on reading short forms. No program in sight. -/
import Derived.Test.YtnnladfndmdapaaPlain
namespace Go.Proofs.Ytnnladfndmdapaa
open Go.RowKit

/-- What a short form comes to, from its i-th byte on, u being what stood ahead: the error, or the fold and the number of its bytes. -/
def scan (i u : Nat) : List UInt8 → Except Int (Nat × Nat)
  | [] => .error 20
  | b :: r =>
    if i = 9 ∧ 1 < b.toNat then .error 21
    else if 128 ≤ b.toNat then scan (i + 1) (u + b.toNat % 128 * 128 ^ i) r
    else if b.toNat = 0 ∧ 0 < i then .error 21
    else .ok (u + b.toNat % 128 * 128 ^ i, i + 1)
/-- The number whose fold this is. -/
def unfoldI (u : Nat) : Int := if u % 2 = 0 then (u / 2 : Nat) else -((u / 2 : Nat) : Int) - 1
def numberF (low high : Int) (l : List UInt8) : Except Int (Int × Nat) :=
  if high < low then .error 2 else
  match scan 0 0 l with
  | .error e => .error e
  | .ok (u, k) => if unfoldI u < low ∨ high < unfoldI u then .error 21 else .ok (unfoldI u, k)
def blockF (most : Int) (l : List UInt8) : Except Int (List UInt8 × Nat) :=
  if most < 0 then .error 2 else
  match numberF 0 most l with
  | .error e => .error e
  | .ok (n, k) => if (l.length : Int) - k < n then .error 20 else .ok ((l.drop k).take n.toNat, k + n.toNat)

theorem scan_ok {l : List UInt8} : ∀ {i u v k : Nat}, scan i u l = .ok (v, k) → i < k ∧ k - i ≤ l.length ∧ (i ≤ 9 → u < 128 ^ i → v < 18446744073709551616 ∧ k ≤ 10) := by
  induction l with
  | nil => intro i u v k h; simp [scan] at h
  | cons b r ih =>
    intro i u v k h
    rw [scan] at h
    by_cases h9 : i = 9 ∧ 1 < b.toNat
    · rw [if_pos h9] at h; cases h
    · rw [if_neg h9] at h
      by_cases h1 : 128 ≤ b.toNat
      · rw [if_pos h1] at h
        obtain ⟨a1, a2, a3⟩ := ih h
        refine ⟨by omega, by simp only [List.length_cons]; omega, fun hi hu => ?_⟩
        have hi8 : i ≤ 8 := by omega
        refine a3 (by omega) ?_
        have : b.toNat % 128 * 128 ^ i ≤ 127 * 128 ^ i := Nat.mul_le_mul_right _ (by omega)
        rw [Nat.pow_succ]; omega
      · rw [if_neg h1] at h
        by_cases h2 : b.toNat = 0 ∧ 0 < i
        · rw [if_pos h2] at h; cases h
        · rw [if_neg h2] at h
          injection h with h
          injection h with h3 h4
          subst h3; subst h4
          refine ⟨by omega, by simp only [List.length_cons]; omega, fun hi hu => ⟨?_, by omega⟩⟩
          by_cases h99 : i = 9
          · subst h99
            have : b.toNat % 128 * 128 ^ 9 ≤ 1 * 128 ^ 9 := Nat.mul_le_mul_right _ (by omega)
            omega
          · have : b.toNat % 128 * 128 ^ i ≤ 127 * 128 ^ i := Nat.mul_le_mul_right _ (by omega)
            have h128 : 128 ^ i ≤ 128 ^ 8 := Nat.pow_le_pow_right (by omega) (by omega)
            omega
theorem scan_err {l : List UInt8} : ∀ {i u : Nat} {e : Int}, scan i u l = .error e → e = 20 ∨ e = 21 := by
  induction l with
  | nil => intro i u e h; simp [scan] at h; exact .inl h.symm
  | cons b r ih =>
    intro i u e h
    rw [scan] at h
    split at h
    · injection h with h; exact .inr h.symm
    · split at h
      · exact ih h
      · split at h
        · injection h with h; exact .inr h.symm
        · cases h
theorem numberF_ok {low high n : Int} {k : Nat} {l : List UInt8} (h : numberF low high l = .ok (n, k)) : low ≤ n ∧ n ≤ high ∧ 0 < k ∧ k ≤ l.length := by
  unfold numberF at h
  by_cases h0 : high < low
  · rw [if_pos h0] at h; cases h
  · rw [if_neg h0] at h
    cases hs : scan 0 0 l with
    | error e => rw [hs] at h; cases h
    | ok x =>
      obtain ⟨u, k'⟩ := x
      rw [hs] at h
      simp only at h
      by_cases h1 : unfoldI u < low ∨ high < unfoldI u
      · rw [if_pos h1] at h; cases h
      · rw [if_neg h1] at h
        injection h with h
        injection h with h3 h4
        subst h3; subst h4
        have := scan_ok hs
        omega
theorem numberF_err {low high e : Int} {l : List UInt8} (h : numberF low high l = .error e) : ¬ e = 0 := by
  unfold numberF at h
  split at h
  · injection h with h; omega
  · cases hs : scan 0 0 l with
    | error e' =>
      rw [hs] at h
      injection h with h
      have := scan_err hs
      omega
    | ok x =>
      obtain ⟨u, k⟩ := x
      rw [hs] at h
      simp only at h
      split at h
      · injection h with h; omega
      · cases h
theorem andNot128 (b : UInt8) : bits .andNot .u8 (b.toNat : Int) 128 = ((b.toNat % 128 : Nat) : Int) := by
  have hb := b.toNat_lt
  rw [show (128 : Int) = ((128 : Nat) : Int) from rfl, u8_andNot_nat _ _ (by omega) (by omega), show 255 - 128 = 127 from rfl, nat_mask7]
theorem or_add (i u x : Nat) (hu : u < 128 ^ i) (h : u + x * 128 ^ i < 18446744073709551616) : bits .or .u64 (u : Int) ((x * 128 ^ i : Nat) : Int) = ((u + x * 128 ^ i : Nat) : Int) := by
  rw [u64_or_nat _ _ (by omega) (by omega)]
  congr 1
  rw [Nat.or_comm, nat_join (7 * i) (x * 128 ^ i) u (by rw [Nat.pow_mul]; exact Nat.mul_mod_left _ _) (by rw [Nat.pow_mul]; exact hu)]
  omega
theorem shl_pow (x i : Nat) {j : Int} (hj : j = (i : Int)) (h : x * 128 ^ i < 18446744073709551616) : IntKind.u64.wrap ((x : Int) * 2 ^ (7 * j).toNat) = ((x * 128 ^ i : Nat) : Int) := by
  subst hj
  rw [wrap_u64, show (7 * (i : Int)).toNat = 7 * i from by omega]
  have e : ((2 : Int) ^ (7 * i)) = ((128 ^ i : Nat) : Int) := by rw [show (128 : Nat) = 2 ^ 7 from rfl, ← Nat.pow_mul]; simp
  rw [e, ← Int.natCast_mul]
  omega
theorem ofInt_i64' (a : Nat) (ha : a < 9223372036854775808) : (BitVec.ofInt 64 (a : Int)).toNat = a := by
  rw [BitVec.ofInt_natCast, BitVec.toNat_ofNat]; exact Nat.mod_eq_of_lt (by omega)
/-- int(u >> 1) ^ -int(u & 1) is the number whose fold u is. -/
theorem unfold_bits (u z : Nat) (hu : u < 18446744073709551616) (hz : z = u % 2) : bits .xor .i64 ((u : Int) / 2) (-(z : Int)) = unfoldI u := by
  unfold unfoldI
  rw [show ((u : Int) / 2) = ((u / 2 : Nat) : Int) from by omega]
  show IntKind.i64.wrap ((BitVec.ofInt 64 ((u / 2 : Nat) : Int) ^^^ BitVec.ofInt 64 (-(z : Int))).toNat : Int) = _
  rcases (show u % 2 = 0 ∨ u % 2 = 1 from by omega) with h | h
  · rw [if_pos h, hz, h]
    have h2 : (BitVec.ofInt 64 (-((0 : Nat) : Int))).toNat = 0 := by decide
    rw [BitVec.toNat_xor, ofInt_i64' _ (by omega), h2, Nat.xor_zero, IntKind.wrap_i64]
    omega
  · rw [if_neg (by omega), hz, h]
    have h2 : (BitVec.ofInt 64 (-((1 : Nat) : Int))).toNat = 18446744073709551615 := by decide
    rw [BitVec.toNat_xor, ofInt_i64' _ (by omega), h2, u64_ones' _ (by omega), IntKind.wrap_i64]
    omega
theorem and1 (u : Nat) (hu : u < 18446744073709551616) : bits .and .u64 (u : Int) 1 = ((u % 2 : Nat) : Int) := by
  rw [show (1 : Int) = ((1 : Nat) : Int) from rfl, u64_and_nat _ _ hu (by omega), nat_mask1]
/-- The number that bytes say, the highest first. -/
def beVal (l : List UInt8) : Nat := l.foldl (fun v b => v * 256 + b.toNat) 0
def takeF (n : Nat) (l : List UInt8) : Except Int (Nat × Nat) := if l.length < n then .error 20 else .ok (beVal (l.take n), n)
theorem beVal_take {p : List UInt8} {k : Nat} (h : k < p.length) : beVal (p.take (k + 1)) = beVal (p.take k) * 256 + p[k].toNat := by
  rw [List.take_succ_eq_append_getElem h]; unfold beVal; rw [List.foldl_append]; rfl
theorem beVal_lt (p : List UInt8) (k : Nat) : beVal (p.take k) < 256 ^ k := by
  induction k with
  | zero => simp [beVal]
  | succ k ih =>
    by_cases h : k < p.length
    · rw [beVal_take h, Nat.pow_succ]; have := p[k].toNat_lt; omega
    · rw [List.take_of_length_le (by omega)]
      rw [List.take_of_length_le (by omega)] at ih
      rw [Nat.pow_succ]; omega
theorem or_byte (v b : Nat) (hv : v * 256 + b < 18446744073709551616) (hb : b < 256) : bits .or .u64 ((v * 256 : Nat) : Int) (b : Int) = ((v * 256 + b : Nat) : Int) := by
  have h2 : v * 256 < 18446744073709551616 := Nat.lt_of_le_of_lt (Nat.le_add_right _ _) hv
  have h3 : b < 18446744073709551616 := Nat.lt_of_le_of_lt (Nat.le_add_left _ _) hv
  rw [u64_or_nat (v * 256) b h2 h3, nat_join 8 (v * 256) b (Nat.mul_mod_left v (2 ^ 8)) hb]
theorem wrap_mul256 (v : Nat) (hv : v < 256 ^ 7) : IntKind.u64.wrap ((v : Int) * 256) = (v : Int) * 256 := by
  rw [wrap_u64]; omega
theorem or_byte' (v : Nat) (b : UInt8) (hv : v < 256 ^ 7) : bits .or .u64 ((v : Int) * 256) (b.toNat : Int) = ((v * 256 + b.toNat : Nat) : Int) := by
  have hb := b.toNat_lt
  have := or_byte v b.toNat (by omega) (by omega)
  rw [← this, Int.natCast_mul]; rfl
theorem be_wrap (v : Nat) (b : UInt8) (hv : v < 256 ^ 7) : IntKind.u64.wrap ((v : Int) * 256 + (b.toNat : Int)) = ((v * 256 + b.toNat : Nat) : Int) := by
  have hb := b.toNat_lt
  rw [wrap_u64]; omega
theorem takeF_lt {w n k : Nat} {l : List UInt8} (h : takeF w l = .ok (n, k)) : n < 256 ^ w ∧ k = w ∧ w ≤ l.length := by
  unfold takeF at h
  by_cases h0 : l.length < w
  · rw [if_pos h0] at h; cases h
  · rw [if_neg h0] at h
    injection h with h
    injection h with h1 h2
    subst h1
    exact ⟨beVal_lt l w, h2.symm, by omega⟩

/-- What bytes of a short form say, the lowest first. -/
def valF : List UInt8 → Nat
  | [] => 0
  | b :: r => b.toNat % 128 + 128 * valF r
theorem valF_append (p : List UInt8) (b : UInt8) : valF (p ++ [b]) = valF p + b.toNat % 128 * 128 ^ p.length := by
  induction p with
  | nil => simp [valF]
  | cons a p ih =>
    simp only [List.cons_append, valF, ih, List.length_cons, Nat.pow_succ]
    rw [Nat.mul_add, ← Nat.add_assoc, Nat.mul_comm (128 ^ p.length) 128, Nat.mul_left_comm]
theorem valF_lt (p : List UInt8) : valF p < 128 ^ p.length := by
  induction p with
  | nil => simp [valF]
  | cons a p ih => simp only [valF, List.length_cons, Nat.pow_succ]; omega
theorem valF_take {l : List UInt8} {k : Nat} (h : k < l.length) : valF (l.take (k + 1)) = valF (l.take k) + l[k].toNat % 128 * 128 ^ k := by
  rw [List.take_succ_eq_append_getElem h, valF_append, List.length_take, Nat.min_eq_left (by omega)]
theorem valF_drop {p : List UInt8} {j : Nat} (h : j < p.length) : valF (p.drop j) = p[j].toNat % 128 + 128 * valF (p.drop (j + 1)) := by
  rw [List.drop_eq_getElem_cons h]; rfl
theorem valF_drop_le (p : List UInt8) : ∀ j, valF (p.drop j) ≤ valF p := by
  induction p with
  | nil => intro j; simp [valF]
  | cons a p ih =>
    intro j
    cases j with
    | zero => simp
    | succ j => have := ih j; simp only [List.drop_succ_cons, valF]; omega
/-- One more byte of a short form. -/
theorem scan_step {l : List UInt8} {I : Nat} (h : I < l.length) : scan I (valF (l.take I)) (l.drop I) =
    if I = 9 ∧ 1 < l[I].toNat then .error 21 else if 128 ≤ l[I].toNat then scan (I + 1) (valF (l.take (I + 1))) (l.drop (I + 1)) else if l[I].toNat = 0 ∧ 0 < I then .error 21 else .ok (valF (l.take (I + 1)), I + 1) := by
  rw [List.drop_eq_getElem_cons h, scan, valF_take h]
def formF (l : List UInt8) : Nat × Nat × Int := match scan 0 0 l with | .ok (u, k) => (u, k, 0) | .error e => (0, 0, e)
end Go.Proofs.Ytnnladfndmdapaa
