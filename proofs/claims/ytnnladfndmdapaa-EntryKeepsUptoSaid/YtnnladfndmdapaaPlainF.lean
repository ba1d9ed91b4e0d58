/- What is read is put as just the bytes that were taken. No program in sight. -/
import Derived.Test.YtnnladfndmdapaaPlainR
namespace Go.Proofs.Ytnnladfndmdapaa
open Go.RowKit

theorem scan_back {l : List UInt8} : ∀ {i u v k : Nat}, scan i u l = .ok (v, k) → ∃ q, v = u + q * 128 ^ i ∧ k = i + (shortF q).length ∧ l.take (k - i) = shortF q ∧ (0 < i → 0 < q) := by
  induction l with
  | nil => intro i u v k h; simp [scan] at h
  | cons b r ih =>
    intro i u v k h
    have hb := b.toNat_lt
    rw [scan] at h
    by_cases h9 : i = 9 ∧ 1 < b.toNat
    · rw [if_pos h9] at h; cases h
    · rw [if_neg h9] at h
      by_cases h1 : 128 ≤ b.toNat
      · rw [if_pos h1] at h
        obtain ⟨q, hv, hk, ht, hq⟩ := ih h
        have hq0 := hq (by omega)
        have e1 : (b.toNat % 128 + 128 * q) % 128 + 128 = b.toNat := by omega
        have e2 : (b.toNat % 128 + 128 * q) / 128 = q := by omega
        have hs : shortF (b.toNat % 128 + 128 * q) = b :: shortF q := by
          rw [shortF_big (by omega), e1, e2, UInt8.ofNat_toNat]
        refine ⟨b.toNat % 128 + 128 * q, ?_, by rw [hs, List.length_cons]; omega, ?_, fun _ => by omega⟩
        · rw [hv, Nat.pow_succ, Nat.add_mul, Nat.mul_assoc 128 q, Nat.mul_comm 128 (q * 128 ^ i), Nat.mul_assoc, Nat.add_assoc]
        · have hpos := shortF_pos q
          rw [hs, show k - i = (k - (i + 1)) + 1 from by omega, List.take_succ_cons, ht]
      · rw [if_neg h1] at h
        by_cases h2 : b.toNat = 0 ∧ 0 < i
        · rw [if_pos h2] at h; cases h
        · rw [if_neg h2] at h
          injection h with h
          injection h with h3 h4
          have hs : shortF b.toNat = [b] := by rw [shortF_small (by omega), UInt8.ofNat_toNat]
          refine ⟨b.toNat, by rw [← h3, Nat.mod_eq_of_lt (by omega)], by rw [hs]; simp; omega, ?_, fun hi => by omega⟩
          rw [hs, show k - i = 0 + 1 from by omega, List.take_succ_cons, List.take_zero]
theorem fold_unfold (u : Nat) : foldI (unfoldI u) = u := by
  unfold foldI unfoldI
  split <;> split <;> omega
theorem numberF_back {low high n : Int} {l : List UInt8} {k : Nat} (h : numberF low high l = .ok (n, k)) : intF n = l.take k := by
  unfold numberF at h
  split at h
  · cases h
  · cases hs : scan 0 0 l with
    | error e => rw [hs] at h; cases h
    | ok x =>
      obtain ⟨u, k'⟩ := x
      rw [hs] at h
      simp only at h
      split at h
      · cases h
      · injection h with h
        injection h with h3 h4
        subst h3; subst h4
        obtain ⟨q, hv, hk, ht, _⟩ := scan_back hs
        simp only [Nat.zero_add, Nat.pow_zero, Nat.mul_one, Nat.sub_zero] at hv ht
        unfold intF
        rw [fold_unfold, hv, ht]
theorem blockF_back {most : Int} {l p : List UInt8} {k : Nat} (h : blockF most l = .ok (p, k)) : intF p.length ++ p = l.take k := by
  unfold blockF at h
  split at h
  · cases h
  · cases hn : numberF 0 most l with
    | error e => rw [hn] at h; cases h
    | ok x =>
      obtain ⟨n, j⟩ := x
      rw [hn] at h
      simp only at h
      split at h
      · cases h
      · injection h with h
        injection h with h3 h4
        have hb := numberF_ok hn
        have hk := numberF_back hn
        have hp : (p.length : Int) = n := by rw [← h3, List.length_take, List.length_drop]; omega
        rw [hp, hk, ← h3, ← h4, List.take_add]
theorem blockF_err {most e : Int} {l : List UInt8} (h : blockF most l = .error e) : ¬ e = 0 := by
  unfold blockF at h
  split at h
  · injection h with h; omega
  · cases hn : numberF 0 most l with
    | error e' => rw [hn] at h; injection h with h; have := numberF_err hn; omega
    | ok x =>
      obtain ⟨n, j⟩ := x
      rw [hn] at h
      simp only at h
      split at h
      · injection h with h; omega
      · cases h
theorem beN_beVal : ∀ (k : Nat) (l : List UInt8), l.length = k → beN k (beVal l) = l := by
  intro k
  induction k with
  | zero => intro l hl; rw [List.eq_nil_of_length_eq_zero hl]; rfl
  | succ k ih =>
    intro l hl
    cases l with
    | nil => simp at hl
    | cons a r =>
      have hr : r.length = k := by simpa using hl
      have hval : ∀ (r : List UInt8) (x : Nat), r.foldl (fun v b => v * 256 + b.toNat) x = x * 256 ^ r.length + beVal r := by
        intro r
        induction r with
        | nil => intro x; simp [beVal]
        | cons c s ihs =>
          intro x
          have e : beVal (c :: s) = s.foldl (fun v b => v * 256 + b.toNat) (0 * 256 + c.toNat) := rfl
          rw [List.foldl_cons, ihs, e, ihs, List.length_cons, Nat.pow_succ, Nat.add_mul, Nat.add_mul, Nat.mul_assoc, Nat.mul_comm 256]
          omega
      have hlt : beVal r < 256 ^ k := by have := beVal_lt r k; rwa [List.take_of_length_le (by omega)] at this
      have hv : beVal (a :: r) = a.toNat * 256 ^ k + beVal r := by
        have e : beVal (a :: r) = r.foldl (fun v b => v * 256 + b.toNat) (0 * 256 + a.toNat) := rfl
        rw [e, hval, hr]; simp
      have hp : 0 < 256 ^ k := Nat.pow_pos (by decide)
      have ha := a.toNat_lt
      have h1 : (a.toNat * 256 ^ k + beVal r) / 256 ^ k % 256 = a.toNat := by
        rw [Nat.mul_comm, Nat.mul_add_div hp, Nat.div_eq_of_lt hlt]; omega
      have h2 : ∀ (m : Nat) (x y : Nat), beN m (x * 256 ^ m + y) = beN m y := by
        intro m
        induction m with
        | zero => intros; rfl
        | succ m ihm =>
          intro x y
          have e1 : x * 256 ^ (m + 1) + y = (x * 256) * 256 ^ m + y := by rw [Nat.pow_succ, Nat.mul_comm (256 ^ m), Nat.mul_assoc]
          have hpm : 0 < 256 ^ m := Nat.pow_pos (by decide)
          rw [beN, beN, e1, ihm, Nat.mul_comm (x * 256), Nat.mul_add_div hpm]
          congr 2
          omega
      rw [hv, beN, h1, h2, ih r hr, UInt8.ofNat_toNat]
end Go.Proofs.Ytnnladfndmdapaa
