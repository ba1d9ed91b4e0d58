/- Contracts and plain laws that this claim leans on, laid together: PlainT, Frm1, Frm2, All, Area1, Area2, Disk1, Disk2, Disk3. -/
import Derived.Test.YtoecgkdipgaaeaaG02
import Derived.Test.YtoecgkdipgaaeaaG06
import Derived.BigQuiet
import Derived.Test.YtoecgkdipgaaeaaG03
import Derived.Deep.Cut
import Derived.BigRegion
import Derived.Deep.RegionHeld3
import Derived.Deep.RegionLaw
set_option linter.all false
set_option linter.unusedVariables false
set_option linter.unusedSimpArgs false
set_option linter.unnecessarySimpa false
/- What is put is read again: plain words on things, their bytes and their reading. No program in sight. -/
namespace Go.Proofs.Ytoecgkdipgaaeaa
open Go.RowKit

structure Th where
  kind : Int
  v : Int
  n : Int
  p : List UInt8
/-- The bytes of a thing. -/
def Th.bytes (t : Th) : List UInt8 :=
  if t.kind = 0 then beN 1 (t.v.toNat % 256)
  else if t.kind = 1 then beN 2 (t.v.toNat % 65536)
  else if t.kind = 2 then beN 4 (t.v.toNat % 4294967296)
  else if t.kind = 3 then beN 8 t.v.toNat
  else if t.kind = 4 then intF t.n
  else if t.kind = 5 then intF t.p.length ++ t.p
  else intF t.p.length ++ t.p
/-- A reading of a thing: whether it answers the thing, and the reader behind it. -/
def Rd.back (r : Rd) (t : Th) : Bool × Rd :=
  if t.kind = 0 then (decide ((r.take 1).1 = t.v.toNat % 256), (r.take 1).2)
  else if t.kind = 1 then (decide ((r.take 2).1 = t.v.toNat % 65536), (r.take 2).2)
  else if t.kind = 2 then (decide ((r.take 4).1 = t.v.toNat % 4294967296), (r.take 4).2)
  else if t.kind = 3 then (decide ((r.take 8).1 = t.v.toNat), (r.take 8).2)
  else if t.kind = 4 then (decide ((r.int t.n t.n).1 = t.n), (r.int t.n t.n).2)
  else if t.kind = 5 then (decide ((r.bytes t.p.length).1 = t.p), (r.bytes t.p.length).2)
  else (decide ((r.bytes t.p.length).1 = t.p), (r.bytes t.p.length).2)

theorem scan_there (post : List UInt8) : ∀ (q i u : Nat), q * 128 ^ i < 18446744073709551616 → (0 < i → 0 < q) → scan i u (shortF q ++ post) = .ok (u + q * 128 ^ i, i + (shortF q).length) := by
  intro q
  induction q using Nat.strongRecOn with
  | _ q ih =>
    intro i u hq hpos
    by_cases h : q < 128
    · rw [shortF_small h, List.cons_append, List.nil_append, scan]
      have ht : (UInt8.ofNat q).toNat = q := by rw [UInt8.toNat_ofNat_of_lt' (by show q < 256; omega)]
      rw [ht, if_neg, if_neg (by omega), if_neg (by omega), Nat.mod_eq_of_lt h]; rfl
      rintro ⟨rfl, h1⟩
      have : 2 * 128 ^ 9 ≤ q * 128 ^ 9 := Nat.mul_le_mul_right _ (by omega)
      omega
    · rw [shortF_big (by omega), List.cons_append, scan]
      have ht : (UInt8.ofNat (q % 128 + 128)).toNat = q % 128 + 128 := by rw [UInt8.toNat_ofNat_of_lt' (by show _ < 256; omega)]
      have hm : q % 128 * 128 ^ i + q / 128 * 128 ^ (i + 1) = q * 128 ^ i := by
        rw [Nat.pow_succ, Nat.mul_comm (128 ^ i), ← Nat.mul_assoc, ← Nat.add_mul]
        congr 1
        omega
      rw [ht, if_neg, if_pos (by omega), ih (q / 128) (by omega) (i + 1) _ (by omega) (fun _ => by omega)]
      · simp only [List.length_cons]
        rw [show (q % 128 + 128) % 128 = q % 128 from by omega, Nat.add_assoc, hm, Nat.add_assoc, Nat.add_comm 1]
      · rintro ⟨rfl, h1⟩
        have : 128 * 128 ^ 9 ≤ q * 128 ^ 9 := Nat.mul_le_mul_right _ (by omega)
        omega
theorem scan_cut : ∀ (q i u : Nat), q * 128 ^ i < 18446744073709551616 → scan i u (shortF q).dropLast = .error 20 := by
  intro q
  induction q using Nat.strongRecOn with
  | _ q ih =>
    intro i u hq
    by_cases h : q < 128
    · rw [shortF_small h]; rfl
    · have hne : shortF (q / 128) ≠ [] := fun e => by have := shortF_pos (q / 128); rw [e] at this; simp at this
      rw [shortF_big (by omega), List.dropLast_cons_of_ne_nil hne, scan]
      have ht : (UInt8.ofNat (q % 128 + 128)).toNat = q % 128 + 128 := by rw [UInt8.toNat_ofNat_of_lt' (by show _ < 256; omega)]
      have hm : q % 128 * 128 ^ i + q / 128 * 128 ^ (i + 1) = q * 128 ^ i := by
        rw [Nat.pow_succ, Nat.mul_comm (128 ^ i), ← Nat.mul_assoc, ← Nat.add_mul]
        congr 1
        omega
      rw [ht, if_neg, if_pos (by omega), ih (q / 128) (by omega) (i + 1) _ (by omega)]
      rintro ⟨rfl, h1⟩
      have : 128 * 128 ^ 9 ≤ q * 128 ^ 9 := Nat.mul_le_mul_right _ (by omega)
      omega
theorem unfold_fold (n : Int) : unfoldI (foldI n) = n := by
  unfold foldI unfoldI
  split <;> split <;> omega
theorem numberF_there {low high n : Int} (h0 : -9223372036854775808 ≤ n) (h1 : n ≤ 9223372036854775807) (hl : low ≤ n) (hh : n ≤ high) (post : List UInt8) : numberF low high (intF n ++ post) = .ok (n, (intF n).length) := by
  unfold numberF intF
  rw [if_neg (by omega), scan_there post (foldI n) 0 0 (by have := foldI_lt h0 h1; omega) (fun h => by omega)]
  simp only [Nat.zero_add, Nat.pow_zero, Nat.mul_one]
  rw [unfold_fold, if_neg (by omega)]
theorem numberF_cut {low high n : Int} (h0 : -9223372036854775808 ≤ n) (h1 : n ≤ 9223372036854775807) (hl : low ≤ n) (hh : n ≤ high) : numberF low high (intF n).dropLast = .error 20 := by
  unfold numberF intF
  rw [if_neg (by omega), scan_cut (foldI n) 0 0 (by have := foldI_lt h0 h1; omega)]
theorem intF_ne (n : Int) : intF n ≠ [] := fun e => by have := shortF_pos (foldI n); unfold intF at e; rw [e] at this; simp at this
theorem blockF_there (p post : List UInt8) (hp : p.length ≤ 9223372036854775807) : blockF p.length (intF p.length ++ p ++ post) = .ok (p, (intF p.length ++ p).length) := by
  unfold blockF
  rw [if_neg (by omega), List.append_assoc, numberF_there (by omega) (by omega) (by omega) (by omega)]
  simp only [List.length_append]
  rw [if_neg (by omega), List.drop_left, Int.toNat_natCast, List.take_left]
theorem blockF_cut (p : List UInt8) (hp : p.length ≤ 9223372036854775807) : blockF p.length (intF p.length ++ p).dropLast = .error 20 := by
  unfold blockF
  rw [if_neg (by omega)]
  cases hpe : p with
  | nil => rw [List.append_nil, numberF_cut (by simp) (by simp) (by simp) (by simp)]
  | cons a r =>
    rw [← hpe, List.dropLast_append_of_ne_nil (by rw [hpe]; simp), numberF_there (by omega) (by omega) (by omega) (by omega)]
    simp only [List.length_append, List.length_dropLast]
    have : 0 < p.length := by rw [hpe]; simp
    rw [if_pos (by omega)]
theorem beVal_beN (k : Nat) : ∀ v, v < 256 ^ k → ∀ x, (beN k v).foldl (fun v b => v * 256 + b.toNat) x = x * 256 ^ k + v := by
  induction k with
  | zero => intro v hv x; have : v = 0 := by simpa using hv
            subst this; simp [beN]
  | succ k ih =>
    intro v hv x
    have hp : 0 < 256 ^ k := Nat.pow_pos (by decide)
    have h1 : v / 256 ^ k < 256 := by rw [Nat.div_lt_iff_lt_mul hp]; rw [Nat.pow_succ] at hv; omega
    have hm : ∀ (m : Nat) (x : Nat), beN m (x % 256 ^ m) = beN m x := by
      have hq : ∀ (k v m : Nat), k ≤ m → beN k (v % 256 ^ m) = beN k v := by
        intro k
        induction k with
        | zero => intros; rfl
        | succ k ih =>
          intro v m hm
          have h : v % 256 ^ m / 256 ^ k % 256 = v / 256 ^ k % 256 := by
            obtain ⟨d, rfl⟩ : ∃ d, m = k + (d + 1) := ⟨m - k - 1, by omega⟩
            rw [Nat.pow_add, Nat.mod_mul_right_div_self, Nat.pow_succ, Nat.mul_comm (256 ^ d), Nat.mod_mul_right_mod]
          rw [beN, beN, h, ih v m (by omega)]
      intro m x; exact hq m x m (Nat.le_refl _)
    rw [beN, List.foldl_cons, ← hm k v, ih _ (Nat.mod_lt _ hp), UInt8.toNat_ofNat_of_lt' (by show _ < 256; omega), Nat.mod_eq_of_lt h1, Nat.pow_succ, Nat.add_mul, Nat.add_assoc, Nat.mul_comm (v / 256 ^ k), Nat.div_add_mod, Nat.mul_assoc, Nat.mul_comm 256]
theorem takeF_there (k v : Nat) (hv : v < 256 ^ k) (post : List UInt8) : takeF k (beN k v ++ post) = .ok (v, k) := by
  unfold takeF
  rw [if_neg (by rw [List.length_append, beN_length]; omega)]
  have h : (beN k v ++ post).take k = beN k v := by
    have := List.take_left (l₁ := beN k v) (l₂ := post)
    rwa [beN_length] at this
  rw [h]
  have := beVal_beN k v hv 0
  rw [Nat.zero_mul, Nat.zero_add] at this
  show Except.ok (beVal (beN k v), k) = _
  unfold beVal
  rw [this]
theorem takeF_cut (k v : Nat) (hk : 0 < k) : takeF k (beN k v).dropLast = .error 20 := by
  unfold takeF
  rw [if_pos (by rw [List.length_dropLast, beN_length]; omega)]

/-- The numbers of a thing are those of their kinds. -/
structure Th.ok (t : Th) : Prop where
  v0 : 0 ≤ t.v
  v1 : t.v < 18446744073709551616
  n0 : -9223372036854775808 ≤ t.n
  n1 : t.n ≤ 9223372036854775807
theorem Th.bytes_ne (t : Th) : t.bytes ≠ [] := by
  unfold Th.bytes
  repeat' split
  · simp [beN]
  · simp [beN]
  · simp [beN]
  · simp [beN]
  · exact intF_ne _
  · simp [intF_ne]
  · simp [intF_ne]
theorem Th.bytes_len (t : Th) (hok : t.ok) (hp : t.p.length ≤ 100000000) : t.bytes.length ≤ t.p.length + 10 := by
  have h1 := intF_length hok.n0 hok.n1
  have h2 := intF_length (n := (t.p.length : Int)) (by omega) (by omega)
  unfold Th.bytes
  repeat' split
  all_goals (try simp only [beN_length, List.length_append])
  all_goals omega
theorem back_there {r : Rd} {t : Th} {post : List UInt8} (hok : t.ok) (hp : t.p.length ≤ 100000000) (hf : r.f = 0) (h : r.l.drop r.at_ = t.bytes ++ post) : r.back t = (true, ⟨r.l, r.at_ + t.bytes.length, 0⟩) := by
  obtain ⟨l, a, f⟩ := r
  simp only at hf h
  subst hf
  obtain ⟨q, hq⟩ := Int.eq_ofNat_of_zero_le hok.v0
  have hv1 := hok.v1
  have hq' : t.v.toNat < 18446744073709551616 := by omega
  unfold Rd.back Th.bytes
  unfold Th.bytes at h
  by_cases h0 : t.kind = 0
  · simp only [if_pos h0] at h ⊢
    simp only [Rd.take, Rd.step, h, takeF_there 1 (t.v.toNat % 256) (by omega), if_true, beN_length, decide_true]
  · simp only [if_neg h0] at h ⊢
    by_cases h1 : t.kind = 1
    · simp only [if_pos h1] at h ⊢
      simp only [Rd.take, Rd.step, h, takeF_there 2 (t.v.toNat % 65536) (by omega), if_true, beN_length, decide_true]
    · simp only [if_neg h1] at h ⊢
      by_cases h2 : t.kind = 2
      · simp only [if_pos h2] at h ⊢
        simp only [Rd.take, Rd.step, h, takeF_there 4 (t.v.toNat % 4294967296) (by omega), if_true, beN_length, decide_true]
      · simp only [if_neg h2] at h ⊢
        by_cases h3 : t.kind = 3
        · simp only [if_pos h3] at h ⊢
          simp only [Rd.take, Rd.step, h, takeF_there 8 t.v.toNat (by omega), if_true, beN_length, decide_true]
        · simp only [if_neg h3] at h ⊢
          by_cases h4 : t.kind = 4
          · simp only [if_pos h4] at h ⊢
            simp only [Rd.int, Rd.step, h, numberF_there hok.n0 hok.n1 (Int.le_refl _) (Int.le_refl _), if_true, decide_true]
          · simp only [if_neg h4] at h ⊢
            have h5 : l.drop a = intF t.p.length ++ t.p ++ post := by split at h <;> exact h
            split <;> simp only [Rd.bytes, Rd.step, h5, blockF_there t.p post (by omega), if_true, decide_true]
theorem back_cut {r : Rd} {t : Th} (hok : t.ok) (hp : t.p.length ≤ 100000000) (hf : r.f = 0) (h : r.l.drop r.at_ = t.bytes.dropLast) : (r.back t).2 = ⟨r.l, r.at_, 20⟩ := by
  obtain ⟨l, a, f⟩ := r
  simp only at hf h
  subst hf
  unfold Rd.back
  unfold Th.bytes at h
  by_cases h0 : t.kind = 0
  · simp only [if_pos h0] at h ⊢
    simp only [Rd.take, Rd.step, h, takeF_cut 1 _ (by decide), if_true]
  · simp only [if_neg h0] at h ⊢
    by_cases h1 : t.kind = 1
    · simp only [if_pos h1] at h ⊢
      simp only [Rd.take, Rd.step, h, takeF_cut 2 _ (by decide), if_true]
    · simp only [if_neg h1] at h ⊢
      by_cases h2 : t.kind = 2
      · simp only [if_pos h2] at h ⊢
        simp only [Rd.take, Rd.step, h, takeF_cut 4 _ (by decide), if_true]
      · simp only [if_neg h2] at h ⊢
        by_cases h3 : t.kind = 3
        · simp only [if_pos h3] at h ⊢
          simp only [Rd.take, Rd.step, h, takeF_cut 8 _ (by decide), if_true]
        · simp only [if_neg h3] at h ⊢
          by_cases h4 : t.kind = 4
          · simp only [if_pos h4] at h ⊢
            simp only [Rd.int, Rd.step, h, numberF_cut hok.n0 hok.n1 (Int.le_refl _) (Int.le_refl _), if_true]
          · simp only [if_neg h4] at h ⊢
            have h5 : l.drop a = (intF t.p.length ++ t.p).dropLast := by split at h <;> exact h
            split <;> simp only [Rd.bytes, Rd.step, h5, blockF_cut t.p (by omega), if_true]
end Go.Proofs.Ytoecgkdipgaaeaa
/- Frames, by contract: number, Make. -/
namespace Go.Proofs.Ytoecgkdipgaaeaa
open Go.RowKit

theorem take_readsF {w : World} {B k : Nat} {A : Option Addr} {l : List UInt8} (h : BReads w B A l) : BReads w B A (l.take k) := by
  refine ⟨by rw [bys_length, Nat.mul_one], fun hp => ?_⟩
  rw [List.length_take] at hp
  obtain ⟨b, off, e, hb, hc⟩ := h.2 (by omega)
  refine ⟨b, off, e, hb, fun j u hu => hc j u ?_⟩
  have hj : j < (l.take k).length := by have := (List.getElem?_eq_some_iff.1 hu).1; rwa [bys_length] at this
  rw [← hu, bys_get, bys_get, List.getElem?_take, if_pos (by rw [List.length_take] at hj; omega)]
theorem rd_number {P : List UInt8} (h : P.length = 4) : Rd.take ⟨P, 0, 0⟩ 4 = (beVal P, ⟨P, 4, 0⟩) := by
  simp only [Rd.take, Rd.step, takeF, if_true, List.drop_zero]
  rw [if_neg (by omega)]
  simp only
  rw [List.take_of_length_le (by omega)]
theorem be4_lt {P : List UInt8} (h : P.length = 4) : beVal P < 4294967296 := by
  have := beVal_lt P 4
  rw [List.take_of_length_le (by omega)] at this
  exact this
/-- The frame of a payload. -/
def headF (p : List UInt8) : List UInt8 := [197] ++ beN 4 p.length ++ p
def frameF (p : List UInt8) : List UInt8 := headF p ++ beN 4 (sumF (headF p))
theorem headF_len (p : List UInt8) : (headF p).length = p.length + 5 := by
  unfold headF; simp only [List.length_append, List.length_cons, List.length_nil, beN_length]; omega
theorem frameF_len (p : List UInt8) : (frameF p).length = p.length + 9 := by
  unfold frameF; rw [List.length_append, headF_len, beN_length]
set_option maxRecDepth 100000 in
theorem make_any {w : World} {c : Nat} {A : Option Addr} {p : List UInt8} (hr : BReads w w.heap.size A p) (hl : p.length ≤ 65536) :
    Calls Try.prog 103 #[.slice A p.length c] w fun e w' => ∃ v', e = .returned (.tuple #[v', .int .i64 0]) ∧ BOwns w' w.heap.size v' (frameF p) ∧ Below w.heap.size w w' := by
  have H0 := Lib.hid hr
  have hbo := byte_owns w 197 (n := 197) (by decide)
  have HB1 := Lib.hid ((Below.refl w.heap.size w).alloc (Nat.le_refl _) (.cells #[.int .u8 197] 5))
  have HP := put32_any (c := 1) (l := [197]) p.length hbo.reads (by omega) (by simp)
  have H1 := Lib.hid hbo.reads
  have Ew : IntKind.u32.wrap (p.length : Int) = (p.length : Int) := by simp [IntKind.wrap, IntKind.bits, IntKind.signed]; omega
  have hli : (p.length : Int) ≤ 65536 := by omega
  clear hr hbo
  go_enter Try.func103, Try.ntmps103
  go_wp2_with fail
  refine HP.mono ?_
  rintro e w1 h
  obtain ⟨L, A1, c1, rfl, EL, O1, R1, B1⟩ := h.named
  have B2 := Lib.hid (HB1.out.trans (B1.out.mono HB1.out.size))
  have HPR := Lib.hid ((H0.out.below B2.out))
  have hLl : L.length = 5 := by rw [EL.out, List.length_append, beN_length]; rfl
  have HLL := Lib.hid hLl
  clear h HP B1 R1 hLl
  go_wp2_with (at_builtin; refine Stop.of ?_)
  refine ⟨append_bytes (l := L) (m := p) (base := w.heap.size) (owns_less O1.out HB1.out.size) HPR.out.src (by rw [HLL.out]; omega) B2.out.size rfl rfl rfl rfl ?_⟩
  intro v' w2 hown hg hf
  obtain ⟨HL, hHL⟩ : ∃ x, x = L ++ p := ⟨_, rfl⟩
  rw [← hHL] at hown
  obtain ⟨A2, c2, rfl, hcap2, hr2⟩ := BOwns.slice hown
  have EH := Lib.hid (show HL = headF p from by rw [hHL, EL.out]; rfl)
  have O2 := Lib.hid hown
  have R2 := Lib.hid hr2
  have B3 := Lib.hid (below_grown B2.out (owns_less O1.out HB1.out.size) hg)
  have HHL := Lib.hid (show HL.length = p.length + 5 from by rw [EH.out, headF_len])
  clear hown hg hf hHL hr2 hcap2 O1 B2 HPR
  have hof := of_any (c := c2) R2.out (Nat.le_refl _) (by rw [HHL.out]; omega)
  go_wp2_with fail
  refine hof.mono ?_
  rintro e w3 ⟨rfl, hb⟩
  have hlt := sumF_lt HL
  obtain ⟨s, hs⟩ : ∃ s, s = sumF HL := ⟨_, rfl⟩
  have HS := Lib.hid hs
  rw [← hs] at hlt ⊢
  have R3 := Lib.hid (R2.out.below hb)
  have B4 := Lib.hid (B3.out.trans (hb.mono B3.out.size))
  clear hb hof hs B3
  have HP2 := put32_any (c := c2) s R3.out hlt (by rw [HHL.out]; omega)
  have hlti : (s : Int) < 4294967296 := by omega
  go_wp2_with fail
  refine HP2.mono ?_
  rintro e w4 h
  obtain ⟨v4, rfl, ho, hb⟩ := h.out
  have B5 := Lib.hid (B4.out.trans (hb.mono B4.out.size))
  have O5 := Lib.hid (show BOwns w4 w.heap.size v4 (frameF p) from by
    have := owns_less ho B4.out.size
    rw [HS.out, EH.out] at this
    exact this)
  clear h HP2 ho hb
  go_wp2
  go_ret2
  exact ⟨v4, rfl, O5.out, B5.out⟩
end Go.Proofs.Ytoecgkdipgaaeaa
/- Frames, by contract: Read. -/
namespace Go.Proofs.Ytoecgkdipgaaeaa
open Go.RowKit

/-- The length that a frame's head says. -/
def numF (b : List UInt8) : Nat := beVal ((b.drop 1).take 4)
/-- The payload of the frame with which bytes begin, and the frame's size; or the error. -/
def readF (b : List UInt8) : Except Int (List UInt8 × Nat) :=
  if b.length = 0 then .error 20
  else if b.getD 0 0 ≠ 197 then .error 90
  else if b.length < 5 then .error 20
  else if 65536 < numF b then .error 3
  else if b.length < 5 + numF b + 4 then .error 20
  else if beVal ((b.drop (5 + numF b)).take 4) ≠ sumF (b.take (5 + numF b)) then .error 91
  else .ok ((b.drop 5).take (numF b), 5 + numF b + 4)
/-- What Read answers: the payload in new memory, and the size; or the error. -/
def ReadPost (w : World) (x : Except Int (List UInt8 × Nat)) (e : Ending) (w' : World) : Prop :=
  match x with
  | .ok (p, k) => ∃ v', e = .returned (.tuple #[v', .int .i64 k, .int .i64 0]) ∧ BOwns w' w.heap.size v' p ∧ Below w.heap.size w w'
  | .error m => e = .returned (.tuple #[.slice none 0 0, .int .i64 0, .int .i64 m]) ∧ Below w.heap.size w w'
theorem ReadPost.err {w w' : World} {x : Except Int (List UInt8 × Nat)} {m : Int} {e : Ending} (hx : x = .error m) (he : e = .returned (.tuple #[.slice none 0 0, .int .i64 0, .int .i64 m])) (hb : Below w.heap.size w w') : ReadPost w x e w' := by
  subst hx; exact ⟨he, hb⟩
theorem ReadPost.good {w w' : World} {x : Except Int (List UInt8 × Nat)} {p : List UInt8} {k : Nat} {v' : Value} {e : Ending} (hx : x = .ok (p, k)) (he : e = .returned (.tuple #[v', .int .i64 k, .int .i64 0])) (ho : BOwns w' w.heap.size v' p) (hb : Below w.heap.size w w') : ReadPost w x e w' := by
  subst hx; exact ⟨v', he, ho, hb⟩
end Go.Proofs.Ytoecgkdipgaaeaa
/- frame.All, by contract: where each frame ends, and its payload. -/
namespace Go.Proofs.Ytoecgkdipgaaeaa
open Go.RowKit Go.Shelf
attribute [local go_sem] Oper.semAt_some

/-- The frames that stand one behind the other from a place on. -/
def allF (b : List UInt8) : Nat → Nat → List (Nat × List UInt8)
  | 0, _ => []
  | k + 1, t => match readF (b.drop t) with
    | .ok (p, s) => (t + s, p) :: allF b k (t + s)
    | .error _ => []
theorem readF_ok {b p : List UInt8} {s : Nat} (h : readF b = .ok (p, s)) : 9 ≤ s ∧ s ≤ b.length ∧ p.length + 9 = s ∧ p.length ≤ 65536 := by
  unfold readF at h
  repeat (split at h <;> try (cases h; done))
  injection h with h
  injection h with h1 h2
  rw [← h1, List.length_take, List.length_drop]
  omega
/-- What a round is handed. -/
structure Got where
  at_ : Nat
  A : Option Addr
  c : Nat
  p : List UInt8
def Got.encs (x : Got) : Array Value := #[.int .i64 x.at_, .slice x.A x.p.length x.c]
def Got.key (x : Got) : Nat × List UInt8 := (x.at_, x.p)
def Got.rd (x : Got) (W : World) : Prop := BReads W W.heap.size x.A x.p ∧ x.p.length ≤ 65536
theorem Got.rd_own (B : Nat) : Go.OwnFrom B Got.rd := by
  intro x A B' row h hg hr
  refine ⟨⟨h.1.1, fun hp => ?_⟩, h.2⟩
  obtain ⟨b, off, e, hb, hc⟩ := h.1.2 hp
  refine ⟨b, off, e, Nat.lt_of_lt_of_le hb hg.size, fun j u hu => cell_kept (hc j u hu) hg (fun r e => (hr r e).2)⟩
theorem allF_bound {b : List UInt8} : ∀ (k t : Nat) (A : List (Nat × List UInt8)), A <+: allF b k t → t ≤ b.length → t + 9 * A.length ≤ b.length ∧ ∀ y ∈ A, y.1 ≤ b.length := by
  intro k
  induction k with
  | zero =>
    intro t A h ht
    rw [allF] at h
    obtain rfl := List.prefix_nil.1 h
    exact ⟨by simpa using ht, fun y hy => by cases hy⟩
  | succ k ih =>
    intro t A h ht
    rw [allF] at h
    cases hr : readF (b.drop t) with
    | error m =>
      rw [hr] at h
      obtain rfl := List.prefix_nil.1 h
      exact ⟨by simpa using ht, fun y hy => by cases hy⟩
    | ok x =>
      obtain ⟨p, s⟩ := x
      rw [hr] at h
      obtain ⟨h9, hs, _, _⟩ := readF_ok hr
      rw [List.length_drop] at hs
      cases A with
      | nil => exact ⟨by simpa using ht, fun y hy => by cases hy⟩
      | cons y A =>
        obtain ⟨rfl, hA⟩ := List.cons_prefix_cons.1 h
        obtain ⟨h1, h2⟩ := ih _ A hA (by omega)
        refine ⟨by rw [List.length_cons]; omega, fun z hz => ?_⟩
        rcases List.mem_cons.1 hz with rfl | hz
        · show t + s ≤ b.length
          omega
        · exact h2 z hz
/-- What a round knows: what it is handed, and what it was handed ahead, are the first frames. -/
def Got.rdP (b : List UInt8) (pre : List Got) (x : Got) (W : World) : Prop := x.rd W ∧ (pre ++ [x]).map Got.key <+: allF b (b.length + 1) 0
theorem Got.rdP_own (b : List UInt8) (B : Nat) (pre : List Got) : Go.OwnFrom B (Got.rdP b pre) := fun x A B' row h hg hr => ⟨Got.rd_own B x A B' row h.1 hg hr, h.2⟩
theorem abides_below {β : Type} {B : Nat} {J : β → World → Prop} (h : AbidesFrom B J) {s : β} {W W' : World} (hs : J s W) (hb : Below W.heap.size W W') : J s W' :=
  h s W W' none hs (grown_of_below hb none) (fun r e => by cases e)
/-- The blocks from m up to n stay. -/
def Mid (m n : Nat) (V V' : World) : Prop := V.heap.size ≤ V'.heap.size ∧ ∀ k, m ≤ k → k < n → V'.heap[k]? = V.heap[k]?
theorem Mid.refl (m n : Nat) (V : World) : Mid m n V V := ⟨Nat.le_refl _, fun _ _ _ => rfl⟩
theorem Mid.trans {m n : Nat} {A B C : World} (h : Mid m n A B) (k : Mid m n B C) : Mid m n A C := ⟨Nat.le_trans h.1 k.1, fun i h1 h2 => (k.2 i h1 h2).trans (h.2 i h1 h2)⟩
theorem Mid.of_below {m n : Nat} {A B : World} (h : Below A.heap.size A B) (hn : n ≤ A.heap.size) : Mid m n A B := ⟨h.size, fun k _ h2 => h.block k (by omega)⟩
theorem Mid.cell {m n : Nat} {A B : World} (h : Mid m n A B) {p : Addr} (h1 : m ≤ p.block) (h2 : p.block < n) : B.cell? p = A.cell? p := World.cell?_of_block (h.2 _ h1 h2)
theorem Mid.owns {m n : Nat} {A B : World} {v : Value} {l : List UInt8} (h : Mid m n A B) (ho : BOwns A m v l) (hn : ∀ k, v.ownBlock = some k → k < n) : BOwns B m v l := by
  have h2 := (Item.row v l).keep (w := A) (w' := B) (owns_less ho (Nat.zero_le _)) (fun k hk => h.2 k (ho.lt hk).1 (hn k hk))
  refine ⟨h2.1, ?_⟩
  rcases h2.2 with h3 | ⟨g, cap, cur, hv, _, r⟩
  · exact .inl h3
  · exact .inr ⟨g, cap, cur, hv, (ho.lt (by rw [hv]; rfl)).1, r⟩
theorem readF_err {b : List UInt8} {m : Int} (h : readF b = .error m) : ¬ m = 0 := by
  unfold readF at h
  repeat (split at h <;> try (injection h with h; omega))
  cases h
end Go.Proofs.Ytoecgkdipgaaeaa
/- Areas: how they lie in memory; Append, Sync, Bounds, Read, Cut, Trim: by contract. -/
namespace Go.Proofs.Ytoecgkdipgaaeaa
open Go.RowKit

/-- An area: its block, its row's address and capacity; where it begins, its bytes, how many are safe. -/
structure Ar where
  g : Nat
  A : Option Addr
  c : Nat
  base : Int
  l : List UInt8
  safe : Nat
def Ar.v (a : Ar) : Value := .slice a.A a.l.length a.c
def Ar.cells (a : Ar) : Array Value := #[.int .i64 a.base, .slice a.A a.l.length a.c, .int .i64 a.safe]
def Ar.item (a : Ar) : Item := Item.all [Item.blk a.g 163 a.cells, Item.row a.v a.l]
section
variable {w w' : World} {a : Ar}
theorem Ar.blk (h : a.item.P w) : Blk w a.g 163 a.cells := Item.all_get h (List.mem_cons_self ..)
theorem Ar.row (h : a.item.P w) : BOwns w 0 a.v a.l := Item.all_get (x := Item.row a.v a.l) h (by simp)
theorem Ar.reads (h : a.item.P w) : BReads w w.heap.size a.A a.l := (show BOwns w 0 (.slice a.A a.l.length a.c) a.l from Ar.row h).reads
theorem Ar.cap (h : a.item.P w) : a.l.length ≤ a.c := by
  obtain ⟨A, c, e, hc, _⟩ := BOwns.slice (show BOwns w 0 (.slice a.A a.l.length a.c) a.l from Ar.row h)
  injection e with _ _ e; omega
end
/-- The area's block is written at one cell. -/
theorem Ar.turnCell {w : World} {a b : Ar} (h : a.item.P w) (i : Nat) (u : Value) (hg : b.g = a.g) (hv : b.v = a.v) (hl : b.l = a.l) (hc : b.cells = a.cells.setIfInBounds i u) : Turn a.item w b.item (w.setCell ⟨a.g, i, none⟩ u) := by
  have t := Turn.head h (Turn.cell (Ar.blk h) i u)
  unfold Ar.item
  rw [hg, hv, hl, hc]
  exact t
/-- The same row, fewer bytes. -/
theorem BOwns.less {w : World} {base n c k : Nat} {A : Option Addr} {l : List UInt8} (h : BOwns w base (.slice A n c) l) (hk : k ≤ l.length) : BOwns w base (.slice A k c) (l.take k) := by
  have hl : (l.take k).length = k := by rw [List.length_take]; omega
  refine ⟨by rw [bys_length, Nat.mul_one], ?_⟩
  rw [hl]
  rcases h.2 with ⟨h1, h2⟩ | ⟨g, cap, cur, hv, hb, hh, hn, hcm, hs, ht⟩
  · have : k = 0 := by omega
    subst this
    injection h1 with e1 e2 e3
    subst e1; subst e3
    exact .inl ⟨rfl, rfl⟩
  · injection hv with e1 e2 e3
    subst e1; subst e3
    refine .inr ⟨g, _, cur, rfl, hb, hh, by omega, hcm, hs, ?_⟩
    rw [Nat.mul_one] at ht ⊢
    have : (cur.toList.take l.length).take k = (bys l).take k := by rw [ht]
    rw [List.take_take, show min k l.length = k from by omega] at this
    rw [this]; simp [bys, List.map_take]
theorem aNew_any {w : World} : Calls Try.prog 76 #[] w fun e w' => e = .returned (.pointer (some ⟨w.heap.size, 0, none⟩)) ∧ (Ar.item ⟨w.heap.size, none, 0, 0, [], 0⟩).P w' ∧ Below w.heap.size w w' := by
  have K := Lib.hid (Blk.new w 163 #[.int .i64 0, .slice none 0 0, .int .i64 0])
  have B := Lib.hid ((Below.refl w.heap.size w).alloc (Nat.le_refl _) (.cells #[.int .i64 0, .slice none 0 0, .int .i64 0] 163))
  go_enter Try.func76, Try.ntmps76
  go_wp2
  go_ret
  refine ⟨rfl, ⟨fun i hi => ?_, ?_⟩, B.out⟩
  · simp only [List.mem_cons, List.not_mem_nil, or_false] at hi
    rcases hi with rfl | rfl
    · exact K.out
    · exact BOwns.nil _ _
  · refine List.pairwise_cons.2 ⟨fun i hi k _ hk => ?_, List.pairwise_cons.2 ⟨fun i hi => (by cases hi), List.Pairwise.nil⟩⟩
    simp only [List.mem_cons, List.not_mem_nil, or_false] at hi
    subst hi
    cases hk
def ErrTurn (a : Ar) (w : World) (m : Int) (b : Ar) (e : Ending) (w' : World) : Prop := e = .returned (.int .i64 m) ∧ Turn a.item w b.item w'
set_option maxRecDepth 100000 in
theorem aSync_any {w : World} {a : Ar} (h : a.item.P w) : Calls Try.prog 121 #[.pointer (some ⟨a.g, 0, none⟩)] w (ErrTurn a w 0 { a with safe := a.l.length }) := by
  have T := Lib.hid (Ar.turnCell (b := { a with safe := a.l.length }) h 2 (.int .i64 a.l.length) rfl rfl rfl rfl)
  have q1 := (Ar.blk h).cell 1
  have q2 := (Ar.blk h).cell 2
  have f2 := (Ar.blk h).frozen 2
  unfold Ar.cells at q1 q2
  simp at q1 q2
  clear h
  go_enter Try.func121, Try.ntmps121
  go_wp2
  go_ret
  exact ⟨rfl, T.out⟩
set_option maxRecDepth 100000 in
theorem aBounds_any {w : World} {a : Ar} (h : a.item.P w) (hb0 : 0 ≤ a.base) (hb1 : a.base ≤ 4611686018427387904) (hl : a.l.length ≤ 140737488355328) (hs : a.safe ≤ a.l.length) :
    Calls Try.prog 100 #[.pointer (some ⟨a.g, 0, none⟩)] w fun e w' => e = .returned (.tuple #[.int .i64 a.base, .int .i64 (a.base + a.safe), .int .i64 (a.base + a.l.length)]) ∧ Below w.heap.size w w' := by
  have q0 := (Ar.blk h).cell 0
  have q1 := (Ar.blk h).cell 1
  have q2 := (Ar.blk h).cell 2
  unfold Ar.cells at q0 q1 q2
  simp at q0 q1 q2
  obtain ⟨b, hb⟩ : ∃ b, b = a.base := ⟨_, rfl⟩
  obtain ⟨n, hn⟩ : ∃ n, n = a.l.length := ⟨_, rfl⟩
  obtain ⟨s, hs'⟩ : ∃ n, n = a.safe := ⟨_, rfl⟩
  rw [← hb] at q0 hb0 hb1 ⊢
  rw [← hn] at q1 hl hs ⊢
  rw [← hs'] at q2 hs ⊢
  have hbi : b ≤ 4611686018427387904 := hb1
  clear h hb hn hs'
  go_enter Try.func100, Try.ntmps100
  go_wp2
  go_quiet (fail)
  go_wp2
  go_ret3
  exact ⟨rfl, below_drewN (Below.refl _ _) _⟩
set_option maxRecDepth 100000 in
/-- The same area with another row. -/
theorem Ar.turnRow {w w1 : World} {a : Ar} {A' : Option Addr} {c' : Nat} {l' : List UInt8} {u : Value} (h : a.item.P w) (t : Turn (Item.row a.v a.l) w (Item.row (.slice A' l'.length c') l') w1) (hu : u = .slice A' l'.length c') :
    Turn a.item w (Ar.item { a with A := A', c := c', l := l' }) (w1.setCell ⟨a.g, 1, none⟩ u) := by
  subst hu
  have t1 := Turn.second h t
  have hb : Blk w1 a.g 163 a.cells := Item.all_get t1.p (List.mem_cons_self ..)
  have t2 := Turn.head t1.p (Turn.cell hb 1 (.slice A' l'.length c'))
  exact t1.trans t2
set_option maxRecDepth 100000 in
theorem aAppend_any {w : World} {B c : Nat} {A : Option Addr} {b : List UInt8} {a : Ar} (h : a.item.P w) (hr : BReads w B A b) (hl : a.l.length + b.length ≤ 140737488355328) :
    Calls Try.prog 120 #[.pointer (some ⟨a.g, 0, none⟩), .slice A b.length c] w fun e w' => ∃ A' c', ErrTurn a w 0 { a with A := A', c := c', l := a.l ++ b } e w' := by
  have H := Lib.hid h
  have HR := Lib.hid hr
  have q1 := (Ar.blk h).cell 1
  unfold Ar.cells at q1
  simp at q1
  clear h hr
  go_enter Try.func120, Try.ntmps120
  go_wp2_with (at_builtin; refine Stop.of ?_)
  refine ⟨append_bytes (l := a.l) (m := b) (base := 0) (Ar.row H.out) HR.out.src hl (Nat.zero_le _) rfl rfl rfl rfl ?_⟩
  intro v' w1 hown hg hf
  obtain ⟨L, hL⟩ : ∃ L, L = a.l ++ b := ⟨_, rfl⟩
  rw [← hL] at hown
  obtain ⟨A', c', rfl, _, _⟩ := BOwns.slice hown
  have HL := Lib.hid hL
  clear hL
  have t := Turn.row (l := a.l) hown (Keeps.of_grown hg |>.mono (fun i hi => .inl hi)) (by
    rcases hf with hf | hf
    · exact .inl hf
    · exact .inr (fun k hk => by rw [hf] at hk; injection hk with hk; omega))
  have T2 := Lib.hid (Ar.turnRow H.out t rfl)
  have t1 := Turn.second H.out t
  have hb : Blk w1 a.g 163 a.cells := Item.all_get t1.p (List.mem_cons_self ..)
  have f1 := hb.frozen 1
  have z1 := hb.cell 1
  unfold Ar.cells at z1
  simp at z1
  clear hown hg hf t t1 hb
  go_wp2
  go_ret
  exact ⟨A', c', rfl, by rw [← HL.out]; exact T2.out⟩
end Go.Proofs.Ytoecgkdipgaaeaa
/- Areas: Cut, Trim, Crash: by contract. -/
namespace Go.Proofs.Ytoecgkdipgaaeaa
open Go.RowKit

/-- The area cut to its first bytes. -/
def Ar.cut (a : Ar) (k : Nat) : Ar := { a with l := a.l.take k, safe := min a.safe k }
/-- The area without its first bytes. -/
def Ar.trim (a : Ar) (k : Nat) (A' : Option Addr) (c' : Nat) : Ar := { a with A := A', c := c', base := a.base + k, l := a.l.drop k, safe := a.safe - k }
theorem trim_end {W w2 : World} {a : Ar} {A' : Option Addr} {c' : Nat} {P : List UInt8} (h : a.item.P W) (ho : BOwns w2 W.heap.size (.slice A' P.length c') P) (hb : Below W.heap.size W w2) (t : Int) :
    Turn a.item W (Ar.item { a with A := A', c := c', l := P, base := t }) ((w2.setCell ⟨a.g, 1, none⟩ (.slice A' P.length c')).setCell ⟨a.g, 0, none⟩ (.int .i64 t)) := by
  have t1 := Turn.row (l := a.l) (v := a.v) ho (Keeps.of_below hb _) (.inr fun k hk => (ho.lt hk).1)
  have t2 := Ar.turnRow h t1 rfl
  exact t2.trans (Ar.turnCell (b := { a with A := A', c := c', l := P, base := t }) t2.p 0 (.int .i64 t) rfl rfl rfl (by unfold Ar.cells; simp))
end Go.Proofs.Ytoecgkdipgaaeaa
/- Disks: how they lie in memory; find, Bounds, Read, Done: by contract. -/
namespace Go.Proofs.Ytoecgkdipgaaeaa
open Go.RowKit

/-- A part of a disk: its area, its fate, how many operations were carried out. -/
structure Pt where
  a : Ar
  fd : Int
  fk : Int
  ft : Int
  done : Int
def Pt.cells (p : Pt) : List Value := [.pointer (some ⟨p.a.g, 0, none⟩), .int .i64 p.fd, .int .i64 p.fk, .int .u8 p.ft, .int .i64 p.done]
def partCells (ps : List Pt) : Array Value := (ps.map Pt.cells).flatten.toArray
theorem flat_get {α : Type} {L : List (List α)} {n : Nat} (h : ∀ x ∈ L, x.length = n) {i j : Nat} {x : List α} (hi : L[i]? = some x) (hj : j < n) : L.flatten[i * n + j]? = x[j]? := by
  induction L generalizing i with
  | nil => cases hi
  | cons y L ih =>
    have hy := h y (by simp)
    rw [List.flatten_cons]
    cases i with
    | zero =>
      simp only [List.getElem?_cons_zero, Option.some.injEq] at hi
      subst hi
      rw [List.getElem?_append_left (by omega)]; simp
    | succ i =>
      simp only [List.getElem?_cons_succ] at hi
      rw [List.getElem?_append_right (by rw [hy]; rw [Nat.add_mul]; omega), hy, show (i + 1) * n + j - n = i * n + j from by rw [Nat.add_mul]; omega]
      exact ih (fun x hx => h x (by simp [hx])) hi
theorem flat_set {α : Type} {L : List (List α)} {n : Nat} (h : ∀ x ∈ L, x.length = n) {i j : Nat} {x : List α} (hi : L[i]? = some x) (hj : j < n) (u : α) : L.flatten.set (i * n + j) u = (L.set i (x.set j u)).flatten := by
  induction L generalizing i with
  | nil => cases hi
  | cons y L ih =>
    have hy := h y (by simp)
    cases i with
    | zero =>
      simp only [List.getElem?_cons_zero, Option.some.injEq] at hi
      subst hi
      rw [List.set_cons_zero, List.flatten_cons, List.flatten_cons, List.set_append_left _ _ (by omega)]; simp
    | succ i =>
      simp only [List.getElem?_cons_succ] at hi
      rw [List.set_cons_succ, List.flatten_cons, List.flatten_cons, List.set_append_right _ _ (by rw [hy, Nat.add_mul]; omega), hy, show (i + 1) * n + j - n = i * n + j from by rw [Nat.add_mul]; omega]
      rw [ih (fun x hx => h x (by simp [hx])) hi]
theorem pt_len (ps : List Pt) : ∀ x ∈ ps.map Pt.cells, x.length = 5 := by
  intro x hx
  obtain ⟨p, _, rfl⟩ := List.mem_map.1 hx
  rfl
theorem partCells_get {ps : List Pt} {i j : Nat} {p : Pt} (hi : ps[i]? = some p) (hj : j < 5) : (partCells ps)[i * 5 + j]? = p.cells[j]? := by
  unfold partCells
  rw [List.getElem?_toArray]
  exact flat_get (pt_len ps) (by rw [List.getElem?_map, hi]; rfl) hj
theorem partCells_set {ps : List Pt} {i j : Nat} {p q : Pt} (hi : ps[i]? = some p) (hj : j < 5) {u : Value} (hq : q.cells = p.cells.set j u) : (partCells ps).setIfInBounds (i * 5 + j) u = partCells (ps.set i q) := by
  apply Array.ext'
  unfold partCells
  rw [Array.toList_setIfInBounds]
  show (ps.map Pt.cells).flatten.set _ _ = ((ps.set i q).map Pt.cells).flatten
  rw [flat_set (pt_len ps) (x := p.cells) (by rw [List.getElem?_map, hi]; rfl) hj, List.map_set, hq]
/-- A disk. -/
structure Dk where
  g : Nat
  gp : Nat
  armed : Bool
  ps : List Pt
def Dk.pieces (d : Dk) : List Item := Item.blk d.g 131 #[.slice (some ⟨d.gp, 0, none⟩) d.ps.length d.ps.length, .bool d.armed] :: Item.blk d.gp 137 (partCells d.ps) :: d.ps.map (fun p => p.a.item)
def Dk.item (d : Dk) : Item := Item.all d.pieces
section
variable {w w' : World} {d : Dk}
theorem Dk.blk (h : d.item.P w) : Blk w d.g 131 #[.slice (some ⟨d.gp, 0, none⟩) d.ps.length d.ps.length, .bool d.armed] := Item.all_get h (List.mem_cons_self ..)
theorem Dk.parts (h : d.item.P w) : Blk w d.gp 137 (partCells d.ps) := Item.all_get h (List.mem_cons_of_mem _ (List.mem_cons_self ..))
theorem Dk.area (h : d.item.P w) {i : Nat} {p : Pt} (hi : d.ps[i]? = some p) : p.a.item.P w :=
  Item.all_get h (List.mem_cons_of_mem _ (List.mem_cons_of_mem _ (List.mem_map.2 ⟨p, List.mem_of_getElem? hi, rfl⟩)))
theorem Dk.cell (h : d.item.P w) {i : Nat} {p : Pt} (hi : d.ps[i]? = some p) {j : Nat} (hj : j < 5) : w.cell? ⟨d.gp, i * 5 + j, none⟩ = p.cells[j]? := by
  rw [(Dk.parts h).cell, partCells_get hi hj]
end
set_option maxRecDepth 100000 in
theorem find_any {w : World} {d : Dk} (h : d.item.P w) (hn : d.ps.length ≤ 16) (i : Nat) (hi : i < d.ps.length) :
    Calls Try.prog 99 #[.pointer (some ⟨d.g, 0, none⟩), .int .i64 i] w fun e w' => e = .returned (.tuple #[.pointer (some ⟨d.gp, i * 5, none⟩), .int .i64 0]) ∧ w = w' := by
  have q0 := (Dk.blk h).cell 0
  simp at q0
  obtain ⟨n, hN⟩ : ∃ n, n = d.ps.length := ⟨_, rfl⟩
  rw [← hN] at q0 hn hi
  have d1 : decide ((i : Int) < 0) = false := decide_eq_false (by omega)
  have d2 : decide (n ≤ i) = false := decide_eq_false (by omega)
  have d3 : (i : Int) < (n : Int) := by omega
  have hii : i < n := hi
  clear h hN
  go_enter Try.func99, Try.ntmps99
  go_wp2
  go_ret2
  exact ⟨rfl, rfl⟩
def Dk.put (d : Dk) (i : Nat) (q : Pt) : Dk := { d with ps := d.ps.set i q }
theorem Dk.turnArea {w w' : World} {d : Dk} {i : Nat} {p : Pt} {b : Ar} (h : d.item.P w) (hi : d.ps[i]? = some p) (t : Turn p.a.item w b.item w') (hg : b.g = p.a.g) : Turn d.item w (d.put i { p with a := b }).item w' := by
  have hx : d.pieces[i + 2]? = some p.a.item := by
    unfold Dk.pieces
    simp only [List.getElem?_cons_succ, List.getElem?_map, hi, Option.map_some]
  have := Turn.set h hx t
  have e : d.pieces.set (i + 2) b.item = (d.put i { p with a := b }).pieces := by
    have hc : partCells (d.ps.set i { p with a := b }) = partCells d.ps := by
      unfold partCells
      congr 2
      rw [List.map_set]
      obtain ⟨hlt, he⟩ := List.getElem?_eq_some_iff.1 hi
      apply List.ext_getElem
      · simp
      · intro k h1 h2
        rw [List.getElem_set]
        split
        · rename_i e; subst e; rw [List.getElem_map, he]; show _ = Pt.cells p; unfold Pt.cells; rw [← hg]
        · rfl
    unfold Dk.pieces Dk.put
    simp only [List.set_cons_succ, List.map_set, List.length_set, hc]
  rw [e] at this
  exact this
theorem Dk.turnCell {w : World} {d : Dk} {i j : Nat} {p q : Pt} (h : d.item.P w) (hi : d.ps[i]? = some p) (hj : j < 5) (u : Value) (hq : q.cells = p.cells.set j u) (ha : q.a = p.a) : Turn d.item w (d.put i q).item (w.setCell ⟨d.gp, i * 5 + j, none⟩ u) := by
  have := Turn.second h (Turn.cell (Dk.parts h) (i * 5 + j) u)
  rw [partCells_set hi hj hq] at this
  have e : (d.put i q).pieces = Item.blk d.g 131 #[.slice (some ⟨d.gp, 0, none⟩) d.ps.length d.ps.length, .bool d.armed] :: Item.blk d.gp 137 (partCells (d.ps.set i q)) :: d.ps.map (fun p => p.a.item) := by
    have hm : (d.ps.set i q).map (fun p => p.a.item) = d.ps.map (fun p => p.a.item) := by
      obtain ⟨hlt, he⟩ := List.getElem?_eq_some_iff.1 hi
      apply List.ext_getElem
      · simp
      · intro k h1 h2
        rw [List.getElem_map, List.getElem_map, List.getElem_set]
        split
        · rename_i e; subst e; rw [he, ha]
        · rfl
    unfold Dk.pieces Dk.put
    simp only [List.length_set, hm]
  unfold Dk.item
  rw [e]
  exact this
end Go.Proofs.Ytoecgkdipgaaeaa
/- Disks: Append, Sync, Cut, Trim, by contract (printed by a program of this claim's own). -/
namespace Go.Proofs.Ytoecgkdipgaaeaa
open Go.RowKit

/-- The operation was carried out: the area is another one, one operation more is done. -/
def OpPost (d : Dk) (i : Nat) (p : Pt) (w : World) (R : Ar → Prop) (e : Ending) (w' : World) : Prop :=
  ∃ b, R b ∧ b.g = p.a.g ∧ e = .returned (.int .i64 0) ∧ Turn d.item w (d.put i { p with a := b, done := p.done + 1 }).item w'
theorem put_put {d : Dk} {i : Nat} {p q : Pt} : (d.put i p).put i q = d.put i q := by unfold Dk.put; simp
theorem put_get {d : Dk} {i : Nat} {p q : Pt} (hi : d.ps[i]? = some p) : (d.put i q).ps[i]? = some q := by
  unfold Dk.put
  rw [List.getElem?_set_self (List.getElem?_eq_some_iff.1 hi).1]
set_option maxRecDepth 100000 in
set_option maxHeartbeats 1600000 in
theorem operate_append {w : World} {d : Dk} (h : d.item.P w) (hn : d.ps.length ≤ 16) (i : Nat) {p : Pt} (hi0 : d.ps[i]? = some p) (hd0 : 0 ≤ p.done) (hd1 : p.done ≤ 1000000000000000000) (x : Nat) (hgo : d.armed = true → p.done < p.fd) (R : Ar → Prop) (hop : ∀ W, p.a.item.P W → Below w.heap.size w W → Calls Try.prog 119 #[.pointer (some ⟨p.a.g, 0, none⟩), .pointer (some ⟨x, 0, none⟩)] W fun e w' => ∃ b, R b ∧ b.g = p.a.g ∧ ErrTurn p.a W 0 b e w') :
    Calls Try.prog 118 #[.pointer (some ⟨d.g, 0, none⟩), .int .i64 i, .func (.func 119) #[] #[.pointer (some ⟨x, 0, none⟩)]] w (OpPost d i p w R) := by
  have hilt : i < d.ps.length := (List.getElem?_eq_some_iff.1 hi0).1
  have hfi := find_any h hn i hilt
  have hi := Lib.hid hi0
  have H := Lib.hid h
  have q1 := (Dk.blk h).cell 1
  have c0 := Dk.cell h hi0 (j := 0) (by decide)
  have c1 := Dk.cell h hi0 (j := 1) (by decide)
  have c4 := Dk.cell h hi0 (j := 4) (by decide)
  unfold Pt.cells at c0 c1 c4
  simp at q1 c0 c1 c4
  have HFI := Lib.hid hfi
  clear hfi h hi0 hilt hn
  go_enter Try.func118, Try.ntmps118
  go_wp2_with fail
  refine HFI.out.mono ?_
  rintro e w' ⟨rfl, rfl⟩
  by_cases ha : d.armed = true
  · have hlt := hgo ha
    rw [ha] at q1
    have d1 : decide (p.fd ≤ p.done) = false := decide_eq_false (by omega)
    clear hgo ha
    go_upto_region 4 with fail
    go_quiet (fail)
    go_upto_region 6 with fail
    obtain ⟨W, hW⟩ : ∃ W, W = w.drewN nq := ⟨_, rfl⟩
    rw [← hW]
    have BW := Lib.hid (show Below w.heap.size w W from by rw [hW]; exact below_drewN (Below.refl _ _) nq)
    have HW := Lib.hid (Item.go H.out BW.out)
    have RP := Lib.hid (Dk.area HW.out hi.out)
    have e0 := Dk.cell HW.out hi.out (j := 0) (by decide)
    unfold Pt.cells at e0
    simp at e0
    clear hW q1 c0 c1 c4
    clear d1 hlt
    go_wp2_with fail
    refine (hop W RP.out BW.out).mono ?_
    rintro e w2 ⟨b, hR, hbg, rfl, t⟩
    have HR := Lib.hid hR
    have HBG := Lib.hid hbg
    have T1 := Lib.hid (Turn.pre BW.out (Dk.turnArea HW.out hi.out t hbg))
    have hi2 := put_get (q := { p with a := b }) hi.out
    have c4 := Dk.cell T1.out.p hi2 (j := 4) (by decide)
    have f4 := (Dk.parts T1.out.p).frozen (i * 5 + 4)
    have T2 := Lib.hid (T1.out.trans (Dk.turnCell T1.out.p hi2 (j := 4) (q := { p with a := b, done := p.done + 1 }) (by decide) (.int .i64 (p.done + 1)) rfl rfl))
    rw [put_put] at T2
    have hgp : (d.put i { p with a := b }).gp = d.gp := rfl
    rw [hgp] at c4 f4
    unfold Pt.cells at c4
    simp at c4
    clear hR hbg t T1 hi2 hgp
    go_wp2
    go_ret
    exact ⟨b, HR.out, HBG.out, rfl, T2.out⟩
  · rw [show d.armed = false from by simpa using ha] at q1
    clear hgo ha
    go_upto_region 4 with fail
    go_quiet (fail)
    go_upto_region 6 with fail
    obtain ⟨W, hW⟩ : ∃ W, W = w.drewN nq := ⟨_, rfl⟩
    rw [← hW]
    have BW := Lib.hid (show Below w.heap.size w W from by rw [hW]; exact below_drewN (Below.refl _ _) nq)
    have HW := Lib.hid (Item.go H.out BW.out)
    have RP := Lib.hid (Dk.area HW.out hi.out)
    have e0 := Dk.cell HW.out hi.out (j := 0) (by decide)
    unfold Pt.cells at e0
    simp at e0
    clear hW q1 c0 c1 c4
    go_wp2_with fail
    refine (hop W RP.out BW.out).mono ?_
    rintro e w2 ⟨b, hR, hbg, rfl, t⟩
    have HR := Lib.hid hR
    have HBG := Lib.hid hbg
    have T1 := Lib.hid (Turn.pre BW.out (Dk.turnArea HW.out hi.out t hbg))
    have hi2 := put_get (q := { p with a := b }) hi.out
    have c4 := Dk.cell T1.out.p hi2 (j := 4) (by decide)
    have f4 := (Dk.parts T1.out.p).frozen (i * 5 + 4)
    have T2 := Lib.hid (T1.out.trans (Dk.turnCell T1.out.p hi2 (j := 4) (q := { p with a := b, done := p.done + 1 }) (by decide) (.int .i64 (p.done + 1)) rfl rfl))
    rw [put_put] at T2
    have hgp : (d.put i { p with a := b }).gp = d.gp := rfl
    rw [hgp] at c4 f4
    unfold Pt.cells at c4
    simp at c4
    clear hR hbg t T1 hi2 hgp
    go_wp2
    go_ret
    exact ⟨b, HR.out, HBG.out, rfl, T2.out⟩
set_option maxRecDepth 100000 in
set_option maxHeartbeats 1600000 in
theorem operate_append_down {w : World} {d : Dk} (h : d.item.P w) (hn : d.ps.length ≤ 16) (i : Nat) {p : Pt} (hi0 : d.ps[i]? = some p) (hd0 : 0 ≤ p.done) (hd1 : p.done ≤ 1000000000000000000) (x : Nat) (ha : d.armed = true) (hdn : p.fd ≤ p.done) :
    Calls Try.prog 118 #[.pointer (some ⟨d.g, 0, none⟩), .int .i64 i, .func (.func 119) #[] #[.pointer (some ⟨x, 0, none⟩)]] w fun e w' => e = .returned (.int .i64 80) ∧ Below w.heap.size w w' := by
  have hilt : i < d.ps.length := (List.getElem?_eq_some_iff.1 hi0).1
  have hfi := find_any h hn i hilt
  have hi := Lib.hid hi0
  have H := Lib.hid h
  have q1 := (Dk.blk h).cell 1
  have c0 := Dk.cell h hi0 (j := 0) (by decide)
  have c1 := Dk.cell h hi0 (j := 1) (by decide)
  have c4 := Dk.cell h hi0 (j := 4) (by decide)
  unfold Pt.cells at c0 c1 c4
  simp at q1 c0 c1 c4
  have HFI := Lib.hid hfi
  clear hfi h hi0 hilt hn
  go_enter Try.func118, Try.ntmps118
  go_wp2_with fail
  refine HFI.out.mono ?_
  rintro e w' ⟨rfl, rfl⟩
  rw [ha] at q1
  have d1 : decide (p.fd ≤ p.done) = true := decide_eq_true hdn
  clear ha
  go_upto_region 4 with fail
  go_quiet (fail)
  go_wp2
  go_ret
  exact ⟨rfl, below_drewN (Below.refl _ _) _⟩
set_option maxRecDepth 100000 in
set_option maxHeartbeats 1600000 in
theorem operate_sync {w : World} {d : Dk} (h : d.item.P w) (hn : d.ps.length ≤ 16) (i : Nat) {p : Pt} (hi0 : d.ps[i]? = some p) (hd0 : 0 ≤ p.done) (hd1 : p.done ≤ 1000000000000000000) (hgo : d.armed = true → p.done < p.fd) (R : Ar → Prop) (hop : ∀ W, p.a.item.P W → Below w.heap.size w W → Calls Try.prog 121 #[.pointer (some ⟨p.a.g, 0, none⟩)] W fun e w' => ∃ b, R b ∧ b.g = p.a.g ∧ ErrTurn p.a W 0 b e w') :
    Calls Try.prog 118 #[.pointer (some ⟨d.g, 0, none⟩), .int .i64 i, .func (.func 121) #[] #[]] w (OpPost d i p w R) := by
  have hilt : i < d.ps.length := (List.getElem?_eq_some_iff.1 hi0).1
  have hfi := find_any h hn i hilt
  have hi := Lib.hid hi0
  have H := Lib.hid h
  have q1 := (Dk.blk h).cell 1
  have c0 := Dk.cell h hi0 (j := 0) (by decide)
  have c1 := Dk.cell h hi0 (j := 1) (by decide)
  have c4 := Dk.cell h hi0 (j := 4) (by decide)
  unfold Pt.cells at c0 c1 c4
  simp at q1 c0 c1 c4
  have HFI := Lib.hid hfi
  clear hfi h hi0 hilt hn
  go_enter Try.func118, Try.ntmps118
  go_wp2_with fail
  refine HFI.out.mono ?_
  rintro e w' ⟨rfl, rfl⟩
  by_cases ha : d.armed = true
  · have hlt := hgo ha
    rw [ha] at q1
    have d1 : decide (p.fd ≤ p.done) = false := decide_eq_false (by omega)
    clear hgo ha
    go_upto_region 4 with fail
    go_quiet (fail)
    go_upto_region 6 with fail
    obtain ⟨W, hW⟩ : ∃ W, W = w.drewN nq := ⟨_, rfl⟩
    rw [← hW]
    have BW := Lib.hid (show Below w.heap.size w W from by rw [hW]; exact below_drewN (Below.refl _ _) nq)
    have HW := Lib.hid (Item.go H.out BW.out)
    have RP := Lib.hid (Dk.area HW.out hi.out)
    have e0 := Dk.cell HW.out hi.out (j := 0) (by decide)
    unfold Pt.cells at e0
    simp at e0
    clear hW q1 c0 c1 c4
    clear d1 hlt
    go_wp2_with fail
    refine (hop W RP.out BW.out).mono ?_
    rintro e w2 ⟨b, hR, hbg, rfl, t⟩
    have HR := Lib.hid hR
    have HBG := Lib.hid hbg
    have T1 := Lib.hid (Turn.pre BW.out (Dk.turnArea HW.out hi.out t hbg))
    have hi2 := put_get (q := { p with a := b }) hi.out
    have c4 := Dk.cell T1.out.p hi2 (j := 4) (by decide)
    have f4 := (Dk.parts T1.out.p).frozen (i * 5 + 4)
    have T2 := Lib.hid (T1.out.trans (Dk.turnCell T1.out.p hi2 (j := 4) (q := { p with a := b, done := p.done + 1 }) (by decide) (.int .i64 (p.done + 1)) rfl rfl))
    rw [put_put] at T2
    have hgp : (d.put i { p with a := b }).gp = d.gp := rfl
    rw [hgp] at c4 f4
    unfold Pt.cells at c4
    simp at c4
    clear hR hbg t T1 hi2 hgp
    go_wp2
    go_ret
    exact ⟨b, HR.out, HBG.out, rfl, T2.out⟩
  · rw [show d.armed = false from by simpa using ha] at q1
    clear hgo ha
    go_upto_region 4 with fail
    go_quiet (fail)
    go_upto_region 6 with fail
    obtain ⟨W, hW⟩ : ∃ W, W = w.drewN nq := ⟨_, rfl⟩
    rw [← hW]
    have BW := Lib.hid (show Below w.heap.size w W from by rw [hW]; exact below_drewN (Below.refl _ _) nq)
    have HW := Lib.hid (Item.go H.out BW.out)
    have RP := Lib.hid (Dk.area HW.out hi.out)
    have e0 := Dk.cell HW.out hi.out (j := 0) (by decide)
    unfold Pt.cells at e0
    simp at e0
    clear hW q1 c0 c1 c4
    go_wp2_with fail
    refine (hop W RP.out BW.out).mono ?_
    rintro e w2 ⟨b, hR, hbg, rfl, t⟩
    have HR := Lib.hid hR
    have HBG := Lib.hid hbg
    have T1 := Lib.hid (Turn.pre BW.out (Dk.turnArea HW.out hi.out t hbg))
    have hi2 := put_get (q := { p with a := b }) hi.out
    have c4 := Dk.cell T1.out.p hi2 (j := 4) (by decide)
    have f4 := (Dk.parts T1.out.p).frozen (i * 5 + 4)
    have T2 := Lib.hid (T1.out.trans (Dk.turnCell T1.out.p hi2 (j := 4) (q := { p with a := b, done := p.done + 1 }) (by decide) (.int .i64 (p.done + 1)) rfl rfl))
    rw [put_put] at T2
    have hgp : (d.put i { p with a := b }).gp = d.gp := rfl
    rw [hgp] at c4 f4
    unfold Pt.cells at c4
    simp at c4
    clear hR hbg t T1 hi2 hgp
    go_wp2
    go_ret
    exact ⟨b, HR.out, HBG.out, rfl, T2.out⟩
set_option maxRecDepth 100000 in
set_option maxHeartbeats 1600000 in
theorem operate_sync_down {w : World} {d : Dk} (h : d.item.P w) (hn : d.ps.length ≤ 16) (i : Nat) {p : Pt} (hi0 : d.ps[i]? = some p) (hd0 : 0 ≤ p.done) (hd1 : p.done ≤ 1000000000000000000) (ha : d.armed = true) (hdn : p.fd ≤ p.done) :
    Calls Try.prog 118 #[.pointer (some ⟨d.g, 0, none⟩), .int .i64 i, .func (.func 121) #[] #[]] w fun e w' => e = .returned (.int .i64 80) ∧ Below w.heap.size w w' := by
  have hilt : i < d.ps.length := (List.getElem?_eq_some_iff.1 hi0).1
  have hfi := find_any h hn i hilt
  have hi := Lib.hid hi0
  have H := Lib.hid h
  have q1 := (Dk.blk h).cell 1
  have c0 := Dk.cell h hi0 (j := 0) (by decide)
  have c1 := Dk.cell h hi0 (j := 1) (by decide)
  have c4 := Dk.cell h hi0 (j := 4) (by decide)
  unfold Pt.cells at c0 c1 c4
  simp at q1 c0 c1 c4
  have HFI := Lib.hid hfi
  clear hfi h hi0 hilt hn
  go_enter Try.func118, Try.ntmps118
  go_wp2_with fail
  refine HFI.out.mono ?_
  rintro e w' ⟨rfl, rfl⟩
  rw [ha] at q1
  have d1 : decide (p.fd ≤ p.done) = true := decide_eq_true hdn
  clear ha
  go_upto_region 4 with fail
  go_quiet (fail)
  go_wp2
  go_ret
  exact ⟨rfl, below_drewN (Below.refl _ _) _⟩
end Go.Proofs.Ytoecgkdipgaaeaa
/- Disks: Append, Sync, Cut, Trim, Bounds, Read, Done, by contract (printed by a program of this claim's own). -/
namespace Go.Proofs.Ytoecgkdipgaaeaa
open Go.RowKit

theorem OpPost.pre {d : Dk} {i : Nat} {p : Pt} {w w1 : World} {R : Ar → Prop} {e : Ending} {w' : World} (hb : Below w.heap.size w w1) (h : OpPost d i p w1 R e w') : OpPost d i p w R e w' := by
  obtain ⟨b, h1, h2, h3, h4⟩ := h
  exact ⟨b, h1, h2, h3, Turn.pre hb h4⟩
set_option maxRecDepth 100000 in
set_option maxHeartbeats 1600000 in
theorem append1_any {w : World} {a : Ar} (h : a.item.P w) {x : Nat} {B c : Nat} {A : Option Addr} {b : List UInt8} (hx : w.cell? ⟨x, 0, none⟩ = some (.slice A b.length c)) (hr : BReads w B A b) (hl : a.l.length + b.length ≤ 140737488355328) :
    Calls Try.prog 119 #[.pointer (some ⟨a.g, 0, none⟩), .pointer (some ⟨x, 0, none⟩)] w fun e w' => ∃ bx : Ar, (fun a' => ∃ A' c', a' = { a with A := A', c := c', l := a.l ++ b }) bx ∧ bx.g = a.g ∧ ErrTurn a w 0 bx e w' := by
  have hc := aAppend_any (c := c) h hr hl
  have HC := Lib.hid hc
  clear hc h
  go_enter Try.func119, Try.ntmps119
  go_wp2_with fail
  refine HC.out.mono ?_
  rintro e w' ⟨A', c', rfl, ht⟩
  have HT := Lib.hid ht
  clear ht
  go_wp2
  go_ret
  exact ⟨_, ⟨A', c', rfl⟩, rfl, rfl, HT.out⟩
set_option maxRecDepth 100000 in
set_option maxHeartbeats 1600000 in
theorem dAppend_any {w : World} {d : Dk} (h : d.item.P w) (hn : d.ps.length ≤ 16) (i : Nat) {p : Pt} (hi0 : d.ps[i]? = some p) (hd0 : 0 ≤ p.done) (hd1 : p.done ≤ 1000000000000000000) (hgo : d.armed = true → p.done < p.fd) {c : Nat} {A : Option Addr} {b : List UInt8} (hr : BReads w w.heap.size A b) (hl : p.a.l.length + b.length ≤ 140737488355328) :
    Calls Try.prog 104 #[.pointer (some ⟨d.g, 0, none⟩), .int .i64 i, .slice A b.length c] w (OpPost d i p w (fun a' => ∃ A' c', a' = { p.a with A := A', c := c', l := p.a.l ++ b })) := by
  have B1 := Lib.hid ((Below.refl w.heap.size w).alloc (Nat.le_refl _) (.cells #[.slice A b.length c] 29))
  have hk := Blk.new w 29 #[.slice A b.length c]
  have hcl := hk.cell 0
  have hlt := hk.lt
  simp only [List.getElem?_toArray, List.getElem?_cons_zero] at hcl
  have hop := operate_append (Item.go h B1.out) hn i hi0 hd0 hd1 w.heap.size hgo (fun a' => ∃ A' c', a' = { p.a with A := A', c := c', l := p.a.l ++ b }) (fun W hP hB => append1_any hP ((hB.cell (p := ⟨w.heap.size, 0, none⟩) hlt).trans hcl) ((hr.below B1.out).below (hB.mono B1.out.size)) hl)
  have HOP := Lib.hid hop
  clear hop hk hcl hlt h hgo
  have hmf : ∀ (fn : Fn) (first cap : Array Value) (w : World), (Instr.makeFunc fn first cap).run Try.prog w = .ok (.func fn first cap) w := fun _ _ _ _ => rfl
  go_enter Try.func104, Try.ntmps104
  go_wp2_with fail
  refine HOP.out.mono ?_
  rintro e w' ⟨b', hR, hg, rfl, t⟩
  have HH := Lib.hid (show OpPost d i p w (fun a' => ∃ A' c', a' = { p.a with A := A', c := c', l := p.a.l ++ b }) (.returned (.int .i64 0)) w' from OpPost.pre B1.out ⟨b', hR, hg, rfl, t⟩)
  clear hR hg t
  go_wp2
  go_ret
  exact HH.out
set_option maxRecDepth 100000 in
set_option maxHeartbeats 1600000 in
theorem dAppend_down {w : World} {d : Dk} (h : d.item.P w) (hn : d.ps.length ≤ 16) (i : Nat) {p : Pt} (hi0 : d.ps[i]? = some p) (hd0 : 0 ≤ p.done) (hd1 : p.done ≤ 1000000000000000000) (ha : d.armed = true) (hdn : p.fd ≤ p.done) {c : Nat} {A : Option Addr} {b : List UInt8} :
    Calls Try.prog 104 #[.pointer (some ⟨d.g, 0, none⟩), .int .i64 i, .slice A b.length c] w fun e w' => e = .returned (.int .i64 80) ∧ Below w.heap.size w w' := by
  have B1 := Lib.hid ((Below.refl w.heap.size w).alloc (Nat.le_refl _) (.cells #[.slice A b.length c] 29))
  have hop := operate_append_down (Item.go h B1.out) hn i hi0 hd0 hd1 w.heap.size ha hdn
  have HOP := Lib.hid hop
  clear hop h ha
  have hmf : ∀ (fn : Fn) (first cap : Array Value) (w : World), (Instr.makeFunc fn first cap).run Try.prog w = .ok (.func fn first cap) w := fun _ _ _ _ => rfl
  go_enter Try.func104, Try.ntmps104
  go_wp2_with fail
  refine HOP.out.mono ?_
  rintro e w' ⟨rfl, hb⟩
  have HH := Lib.hid (B1.out.trans (hb.mono B1.out.size))
  clear hb
  go_wp2
  go_ret
  exact ⟨rfl, HH.out⟩
set_option maxRecDepth 100000 in
set_option maxHeartbeats 1600000 in
theorem dSync_any {w : World} {d : Dk} (h : d.item.P w) (hn : d.ps.length ≤ 16) (i : Nat) {p : Pt} (hi0 : d.ps[i]? = some p) (hd0 : 0 ≤ p.done) (hd1 : p.done ≤ 1000000000000000000) (hgo : d.armed = true → p.done < p.fd) :
    Calls Try.prog 105 #[.pointer (some ⟨d.g, 0, none⟩), .int .i64 i] w (OpPost d i p w (fun a' => a' = { p.a with safe := p.a.l.length })) := by
  have hop := operate_sync h hn i hi0 hd0 hd1 hgo (fun a' => a' = { p.a with safe := p.a.l.length }) (fun W hP hB => (aSync_any hP).mono fun e w' t => ⟨_, rfl, rfl, t⟩)
  have HOP := Lib.hid hop
  clear hop h hgo
  go_enter Try.func105, Try.ntmps105
  go_wp2_with fail
  refine HOP.out.mono ?_
  rintro e w' ⟨b', hR, hg, rfl, t⟩
  have HH := Lib.hid (show OpPost d i p w (fun a' => a' = { p.a with safe := p.a.l.length }) (.returned (.int .i64 0)) w' from ⟨b', hR, hg, rfl, t⟩)
  clear hR hg t
  go_wp2
  go_ret
  exact HH.out
set_option maxRecDepth 100000 in
set_option maxHeartbeats 1600000 in
theorem dSync_down {w : World} {d : Dk} (h : d.item.P w) (hn : d.ps.length ≤ 16) (i : Nat) {p : Pt} (hi0 : d.ps[i]? = some p) (hd0 : 0 ≤ p.done) (hd1 : p.done ≤ 1000000000000000000) (ha : d.armed = true) (hdn : p.fd ≤ p.done) :
    Calls Try.prog 105 #[.pointer (some ⟨d.g, 0, none⟩), .int .i64 i] w fun e w' => e = .returned (.int .i64 80) ∧ Below w.heap.size w w' := by
  have hop := operate_sync_down h hn i hi0 hd0 hd1 ha hdn
  have HOP := Lib.hid hop
  clear hop h ha
  go_enter Try.func105, Try.ntmps105
  go_wp2_with fail
  refine HOP.out.mono ?_
  rintro e w' ⟨rfl, hb⟩
  have HH := Lib.hid hb
  clear hb
  go_wp2
  go_ret
  exact ⟨rfl, HH.out⟩
set_option maxRecDepth 100000 in
set_option maxHeartbeats 1600000 in
theorem dBounds_any {w : World} {d : Dk} (h : d.item.P w) (hn : d.ps.length ≤ 16) (i : Nat) {p : Pt} (hi0 : d.ps[i]? = some p) (hb0 : 0 ≤ p.a.base) (hb1 : p.a.base ≤ 4611686018427387904) (hl : p.a.l.length ≤ 140737488355328) (hs : p.a.safe ≤ p.a.l.length) :
    Calls Try.prog 77 #[.pointer (some ⟨d.g, 0, none⟩), .int .i64 i] w fun e w' => e = .returned (.tuple #[.int .i64 p.a.base, .int .i64 (p.a.base + p.a.safe), .int .i64 (p.a.base + p.a.l.length), .int .i64 0]) ∧ Below w.heap.size w w' := by
  have hfi := find_any h hn i (List.getElem?_eq_some_iff.1 hi0).1
  have c0 := Dk.cell h hi0 (j := 0) (by decide)
  have c4 := Dk.cell h hi0 (j := 4) (by decide)
  unfold Pt.cells at c0 c4
  simp at c0 c4
  have HFI := Lib.hid hfi
  have HA := Lib.hid (Dk.area h hi0)
  clear hfi h hi0
  go_enter Try.func77, Try.ntmps77
  go_wp2_with fail
  refine HFI.out.mono ?_
  rintro e w' ⟨rfl, rfl⟩
  go_wp2_with fail
  refine (aBounds_any HA.out hb0 hb1 hl hs).mono ?_
  rintro e w2 ⟨rfl, hb⟩
  have HB := Lib.hid hb
  clear hb
  go_wp2
  refine bodyPost_ret (v := .tuple #[.int .i64 p.a.base, .int .i64 (p.a.base + p.a.safe), .int .i64 (p.a.base + p.a.l.length), .int .i64 0]) (by simp [results, Try.results77, go_sem]) rfl ?_
  exact ⟨rfl, HB.out⟩
end Go.Proofs.Ytoecgkdipgaaeaa
