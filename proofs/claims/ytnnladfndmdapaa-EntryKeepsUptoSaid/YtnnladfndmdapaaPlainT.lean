/- What is put is read again: plain words on things, their bytes and their reading. No program in sight. -/
import Derived.Test.YtnnladfndmdapaaRdr8
import Derived.Test.YtnnladfndmdapaaPlainR
namespace Go.Proofs.Ytnnladfndmdapaa
open Go.RowKit

structure Th where
  kind : Int
  v : Int
  n : Int
  p : List UInt8
/-- The bytes of a thing. -/
def Th.bytes (t : Th) : List UInt8 :=
  if t.kind = 0 then beN 1 (t.v.toNat % 256)
  else if t.kind = 1 then beN 2 (t.v.toNat % 65536)
  else if t.kind = 2 then beN 4 (t.v.toNat % 4294967296)
  else if t.kind = 3 then beN 8 t.v.toNat
  else if t.kind = 4 then intF t.n
  else if t.kind = 5 then intF t.p.length ++ t.p
  else intF t.p.length ++ t.p
/-- A reading of a thing: whether it answers the thing, and the reader behind it. -/
def Rd.back (r : Rd) (t : Th) : Bool × Rd :=
  if t.kind = 0 then (decide ((r.take 1).1 = t.v.toNat % 256), (r.take 1).2)
  else if t.kind = 1 then (decide ((r.take 2).1 = t.v.toNat % 65536), (r.take 2).2)
  else if t.kind = 2 then (decide ((r.take 4).1 = t.v.toNat % 4294967296), (r.take 4).2)
  else if t.kind = 3 then (decide ((r.take 8).1 = t.v.toNat), (r.take 8).2)
  else if t.kind = 4 then (decide ((r.int t.n t.n).1 = t.n), (r.int t.n t.n).2)
  else if t.kind = 5 then (decide ((r.bytes t.p.length).1 = t.p), (r.bytes t.p.length).2)
  else (decide ((r.bytes t.p.length).1 = t.p), (r.bytes t.p.length).2)

theorem scan_there (post : List UInt8) : ∀ (q i u : Nat), q * 128 ^ i < 18446744073709551616 → (0 < i → 0 < q) → scan i u (shortF q ++ post) = .ok (u + q * 128 ^ i, i + (shortF q).length) := by
  intro q
  induction q using Nat.strongRecOn with
  | _ q ih =>
    intro i u hq hpos
    by_cases h : q < 128
    · rw [shortF_small h, List.cons_append, List.nil_append, scan]
      have ht : (UInt8.ofNat q).toNat = q := by rw [UInt8.toNat_ofNat_of_lt' (by show q < 256; omega)]
      rw [ht, if_neg, if_neg (by omega), if_neg (by omega), Nat.mod_eq_of_lt h]; rfl
      rintro ⟨rfl, h1⟩
      have : 2 * 128 ^ 9 ≤ q * 128 ^ 9 := Nat.mul_le_mul_right _ (by omega)
      omega
    · rw [shortF_big (by omega), List.cons_append, scan]
      have ht : (UInt8.ofNat (q % 128 + 128)).toNat = q % 128 + 128 := by rw [UInt8.toNat_ofNat_of_lt' (by show _ < 256; omega)]
      have hm : q % 128 * 128 ^ i + q / 128 * 128 ^ (i + 1) = q * 128 ^ i := by
        rw [Nat.pow_succ, Nat.mul_comm (128 ^ i), ← Nat.mul_assoc, ← Nat.add_mul]
        congr 1
        omega
      rw [ht, if_neg, if_pos (by omega), ih (q / 128) (by omega) (i + 1) _ (by omega) (fun _ => by omega)]
      · simp only [List.length_cons]
        rw [show (q % 128 + 128) % 128 = q % 128 from by omega, Nat.add_assoc, hm, Nat.add_assoc, Nat.add_comm 1]
      · rintro ⟨rfl, h1⟩
        have : 128 * 128 ^ 9 ≤ q * 128 ^ 9 := Nat.mul_le_mul_right _ (by omega)
        omega
theorem scan_cut : ∀ (q i u : Nat), q * 128 ^ i < 18446744073709551616 → scan i u (shortF q).dropLast = .error 20 := by
  intro q
  induction q using Nat.strongRecOn with
  | _ q ih =>
    intro i u hq
    by_cases h : q < 128
    · rw [shortF_small h]; rfl
    · have hne : shortF (q / 128) ≠ [] := fun e => by have := shortF_pos (q / 128); rw [e] at this; simp at this
      rw [shortF_big (by omega), List.dropLast_cons_of_ne_nil hne, scan]
      have ht : (UInt8.ofNat (q % 128 + 128)).toNat = q % 128 + 128 := by rw [UInt8.toNat_ofNat_of_lt' (by show _ < 256; omega)]
      have hm : q % 128 * 128 ^ i + q / 128 * 128 ^ (i + 1) = q * 128 ^ i := by
        rw [Nat.pow_succ, Nat.mul_comm (128 ^ i), ← Nat.mul_assoc, ← Nat.add_mul]
        congr 1
        omega
      rw [ht, if_neg, if_pos (by omega), ih (q / 128) (by omega) (i + 1) _ (by omega)]
      rintro ⟨rfl, h1⟩
      have : 128 * 128 ^ 9 ≤ q * 128 ^ 9 := Nat.mul_le_mul_right _ (by omega)
      omega
theorem unfold_fold (n : Int) : unfoldI (foldI n) = n := by
  unfold foldI unfoldI
  split <;> split <;> omega
theorem numberF_there {low high n : Int} (h0 : -9223372036854775808 ≤ n) (h1 : n ≤ 9223372036854775807) (hl : low ≤ n) (hh : n ≤ high) (post : List UInt8) : numberF low high (intF n ++ post) = .ok (n, (intF n).length) := by
  unfold numberF intF
  rw [if_neg (by omega), scan_there post (foldI n) 0 0 (by have := foldI_lt h0 h1; omega) (fun h => by omega)]
  simp only [Nat.zero_add, Nat.pow_zero, Nat.mul_one]
  rw [unfold_fold, if_neg (by omega)]
theorem numberF_cut {low high n : Int} (h0 : -9223372036854775808 ≤ n) (h1 : n ≤ 9223372036854775807) (hl : low ≤ n) (hh : n ≤ high) : numberF low high (intF n).dropLast = .error 20 := by
  unfold numberF intF
  rw [if_neg (by omega), scan_cut (foldI n) 0 0 (by have := foldI_lt h0 h1; omega)]
theorem intF_ne (n : Int) : intF n ≠ [] := fun e => by have := shortF_pos (foldI n); unfold intF at e; rw [e] at this; simp at this
theorem blockF_there (p post : List UInt8) (hp : p.length ≤ 9223372036854775807) : blockF p.length (intF p.length ++ p ++ post) = .ok (p, (intF p.length ++ p).length) := by
  unfold blockF
  rw [if_neg (by omega), List.append_assoc, numberF_there (by omega) (by omega) (by omega) (by omega)]
  simp only [List.length_append]
  rw [if_neg (by omega), List.drop_left, Int.toNat_natCast, List.take_left]
theorem blockF_cut (p : List UInt8) (hp : p.length ≤ 9223372036854775807) : blockF p.length (intF p.length ++ p).dropLast = .error 20 := by
  unfold blockF
  rw [if_neg (by omega)]
  cases hpe : p with
  | nil => rw [List.append_nil, numberF_cut (by simp) (by simp) (by simp) (by simp)]
  | cons a r =>
    rw [← hpe, List.dropLast_append_of_ne_nil (by rw [hpe]; simp), numberF_there (by omega) (by omega) (by omega) (by omega)]
    simp only [List.length_append, List.length_dropLast]
    have : 0 < p.length := by rw [hpe]; simp
    rw [if_pos (by omega)]
theorem beVal_beN (k : Nat) : ∀ v, v < 256 ^ k → ∀ x, (beN k v).foldl (fun v b => v * 256 + b.toNat) x = x * 256 ^ k + v := by
  induction k with
  | zero => intro v hv x; have : v = 0 := by simpa using hv
            subst this; simp [beN]
  | succ k ih =>
    intro v hv x
    have hp : 0 < 256 ^ k := Nat.pow_pos (by decide)
    have h1 : v / 256 ^ k < 256 := by rw [Nat.div_lt_iff_lt_mul hp]; rw [Nat.pow_succ] at hv; omega
    have hm : ∀ (m : Nat) (x : Nat), beN m (x % 256 ^ m) = beN m x := by
      have hq : ∀ (k v m : Nat), k ≤ m → beN k (v % 256 ^ m) = beN k v := by
        intro k
        induction k with
        | zero => intros; rfl
        | succ k ih =>
          intro v m hm
          have h : v % 256 ^ m / 256 ^ k % 256 = v / 256 ^ k % 256 := by
            obtain ⟨d, rfl⟩ : ∃ d, m = k + (d + 1) := ⟨m - k - 1, by omega⟩
            rw [Nat.pow_add, Nat.mod_mul_right_div_self, Nat.pow_succ, Nat.mul_comm (256 ^ d), Nat.mod_mul_right_mod]
          rw [beN, beN, h, ih v m (by omega)]
      intro m x; exact hq m x m (Nat.le_refl _)
    rw [beN, List.foldl_cons, ← hm k v, ih _ (Nat.mod_lt _ hp), UInt8.toNat_ofNat_of_lt' (by show _ < 256; omega), Nat.mod_eq_of_lt h1, Nat.pow_succ, Nat.add_mul, Nat.add_assoc, Nat.mul_comm (v / 256 ^ k), Nat.div_add_mod, Nat.mul_assoc, Nat.mul_comm 256]
theorem takeF_there (k v : Nat) (hv : v < 256 ^ k) (post : List UInt8) : takeF k (beN k v ++ post) = .ok (v, k) := by
  unfold takeF
  rw [if_neg (by rw [List.length_append, beN_length]; omega)]
  have h : (beN k v ++ post).take k = beN k v := by
    have := List.take_left (l₁ := beN k v) (l₂ := post)
    rwa [beN_length] at this
  rw [h]
  have := beVal_beN k v hv 0
  rw [Nat.zero_mul, Nat.zero_add] at this
  show Except.ok (beVal (beN k v), k) = _
  unfold beVal
  rw [this]
theorem takeF_cut (k v : Nat) (hk : 0 < k) : takeF k (beN k v).dropLast = .error 20 := by
  unfold takeF
  rw [if_pos (by rw [List.length_dropLast, beN_length]; omega)]

/-- The numbers of a thing are those of their kinds. -/
structure Th.ok (t : Th) : Prop where
  v0 : 0 ≤ t.v
  v1 : t.v < 18446744073709551616
  n0 : -9223372036854775808 ≤ t.n
  n1 : t.n ≤ 9223372036854775807
theorem Th.bytes_ne (t : Th) : t.bytes ≠ [] := by
  unfold Th.bytes
  repeat' split
  · simp [beN]
  · simp [beN]
  · simp [beN]
  · simp [beN]
  · exact intF_ne _
  · simp [intF_ne]
  · simp [intF_ne]
theorem Th.bytes_len (t : Th) (hok : t.ok) (hp : t.p.length ≤ 100000000) : t.bytes.length ≤ t.p.length + 10 := by
  have h1 := intF_length hok.n0 hok.n1
  have h2 := intF_length (n := (t.p.length : Int)) (by omega) (by omega)
  unfold Th.bytes
  repeat' split
  all_goals (try simp only [beN_length, List.length_append])
  all_goals omega
theorem back_there {r : Rd} {t : Th} {post : List UInt8} (hok : t.ok) (hp : t.p.length ≤ 100000000) (hf : r.f = 0) (h : r.l.drop r.at_ = t.bytes ++ post) : r.back t = (true, ⟨r.l, r.at_ + t.bytes.length, 0⟩) := by
  obtain ⟨l, a, f⟩ := r
  simp only at hf h
  subst hf
  obtain ⟨q, hq⟩ := Int.eq_ofNat_of_zero_le hok.v0
  have hv1 := hok.v1
  have hq' : t.v.toNat < 18446744073709551616 := by omega
  unfold Rd.back Th.bytes
  unfold Th.bytes at h
  by_cases h0 : t.kind = 0
  · simp only [if_pos h0] at h ⊢
    simp only [Rd.take, Rd.step, h, takeF_there 1 (t.v.toNat % 256) (by omega), if_true, beN_length, decide_true]
  · simp only [if_neg h0] at h ⊢
    by_cases h1 : t.kind = 1
    · simp only [if_pos h1] at h ⊢
      simp only [Rd.take, Rd.step, h, takeF_there 2 (t.v.toNat % 65536) (by omega), if_true, beN_length, decide_true]
    · simp only [if_neg h1] at h ⊢
      by_cases h2 : t.kind = 2
      · simp only [if_pos h2] at h ⊢
        simp only [Rd.take, Rd.step, h, takeF_there 4 (t.v.toNat % 4294967296) (by omega), if_true, beN_length, decide_true]
      · simp only [if_neg h2] at h ⊢
        by_cases h3 : t.kind = 3
        · simp only [if_pos h3] at h ⊢
          simp only [Rd.take, Rd.step, h, takeF_there 8 t.v.toNat (by omega), if_true, beN_length, decide_true]
        · simp only [if_neg h3] at h ⊢
          by_cases h4 : t.kind = 4
          · simp only [if_pos h4] at h ⊢
            simp only [Rd.int, Rd.step, h, numberF_there hok.n0 hok.n1 (Int.le_refl _) (Int.le_refl _), if_true, decide_true]
          · simp only [if_neg h4] at h ⊢
            have h5 : l.drop a = intF t.p.length ++ t.p ++ post := by split at h <;> exact h
            split <;> simp only [Rd.bytes, Rd.step, h5, blockF_there t.p post (by omega), if_true, decide_true]
theorem back_cut {r : Rd} {t : Th} (hok : t.ok) (hp : t.p.length ≤ 100000000) (hf : r.f = 0) (h : r.l.drop r.at_ = t.bytes.dropLast) : (r.back t).2 = ⟨r.l, r.at_, 20⟩ := by
  obtain ⟨l, a, f⟩ := r
  simp only at hf h
  subst hf
  unfold Rd.back
  unfold Th.bytes at h
  by_cases h0 : t.kind = 0
  · simp only [if_pos h0] at h ⊢
    simp only [Rd.take, Rd.step, h, takeF_cut 1 _ (by decide), if_true]
  · simp only [if_neg h0] at h ⊢
    by_cases h1 : t.kind = 1
    · simp only [if_pos h1] at h ⊢
      simp only [Rd.take, Rd.step, h, takeF_cut 2 _ (by decide), if_true]
    · simp only [if_neg h1] at h ⊢
      by_cases h2 : t.kind = 2
      · simp only [if_pos h2] at h ⊢
        simp only [Rd.take, Rd.step, h, takeF_cut 4 _ (by decide), if_true]
      · simp only [if_neg h2] at h ⊢
        by_cases h3 : t.kind = 3
        · simp only [if_pos h3] at h ⊢
          simp only [Rd.take, Rd.step, h, takeF_cut 8 _ (by decide), if_true]
        · simp only [if_neg h3] at h ⊢
          by_cases h4 : t.kind = 4
          · simp only [if_pos h4] at h ⊢
            simp only [Rd.int, Rd.step, h, numberF_cut hok.n0 hok.n1 (Int.le_refl _) (Int.le_refl _), if_true]
          · simp only [if_neg h4] at h ⊢
            have h5 : l.drop a = (intF t.p.length ++ t.p).dropLast := by split at h <;> exact h
            split <;> simp only [Rd.bytes, Rd.step, h5, blockF_cut t.p (by omega), if_true]
end Go.Proofs.Ytnnladfndmdapaa
