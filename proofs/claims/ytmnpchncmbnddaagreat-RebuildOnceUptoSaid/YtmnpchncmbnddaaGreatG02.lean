/- Contracts and plain laws that this claim leans on, laid together: PlainR, Rdr2, Rdr3, Rdr4, Rdr5, Rdr8, Own, Equal, Rws. -/
import Derived.Test.YtmnpchncmbnddaaGreatG01
import Derived.Deep.QuietTactic
import Derived.BigQuiet
set_option linter.all false
set_option linter.unusedVariables false
set_option linter.unusedSimpArgs false
set_option linter.unnecessarySimpa false
/- Plain words on reading short forms. No program in sight. -/
namespace Go.Proofs.YtmnpchncmbnddaaGreat
open Go.RowKit

/-- What a short form comes to, from its i-th byte on, u being what stood ahead: the error, or the fold and the number of its bytes. -/
def scan (i u : Nat) : List UInt8 → Except Int (Nat × Nat)
  | [] => .error 20
  | b :: r =>
    if i = 9 ∧ 1 < b.toNat then .error 21
    else if 128 ≤ b.toNat then scan (i + 1) (u + b.toNat % 128 * 128 ^ i) r
    else if b.toNat = 0 ∧ 0 < i then .error 21
    else .ok (u + b.toNat % 128 * 128 ^ i, i + 1)
/-- The number whose fold this is. -/
def unfoldI (u : Nat) : Int := if u % 2 = 0 then (u / 2 : Nat) else -((u / 2 : Nat) : Int) - 1
def numberF (low high : Int) (l : List UInt8) : Except Int (Int × Nat) :=
  if high < low then .error 2 else
  match scan 0 0 l with
  | .error e => .error e
  | .ok (u, k) => if unfoldI u < low ∨ high < unfoldI u then .error 21 else .ok (unfoldI u, k)
def blockF (most : Int) (l : List UInt8) : Except Int (List UInt8 × Nat) :=
  if most < 0 then .error 2 else
  match numberF 0 most l with
  | .error e => .error e
  | .ok (n, k) => if (l.length : Int) - k < n then .error 20 else .ok ((l.drop k).take n.toNat, k + n.toNat)

theorem scan_ok {l : List UInt8} : ∀ {i u v k : Nat}, scan i u l = .ok (v, k) → i < k ∧ k - i ≤ l.length ∧ (i ≤ 9 → u < 128 ^ i → v < 18446744073709551616 ∧ k ≤ 10) := by
  induction l with
  | nil => intro i u v k h; simp [scan] at h
  | cons b r ih =>
    intro i u v k h
    rw [scan] at h
    by_cases h9 : i = 9 ∧ 1 < b.toNat
    · rw [if_pos h9] at h; cases h
    · rw [if_neg h9] at h
      by_cases h1 : 128 ≤ b.toNat
      · rw [if_pos h1] at h
        obtain ⟨a1, a2, a3⟩ := ih h
        refine ⟨by omega, by simp only [List.length_cons]; omega, fun hi hu => ?_⟩
        have hi8 : i ≤ 8 := by omega
        refine a3 (by omega) ?_
        have : b.toNat % 128 * 128 ^ i ≤ 127 * 128 ^ i := Nat.mul_le_mul_right _ (by omega)
        rw [Nat.pow_succ]; omega
      · rw [if_neg h1] at h
        by_cases h2 : b.toNat = 0 ∧ 0 < i
        · rw [if_pos h2] at h; cases h
        · rw [if_neg h2] at h
          injection h with h
          injection h with h3 h4
          subst h3; subst h4
          refine ⟨by omega, by simp only [List.length_cons]; omega, fun hi hu => ⟨?_, by omega⟩⟩
          by_cases h99 : i = 9
          · subst h99
            have : b.toNat % 128 * 128 ^ 9 ≤ 1 * 128 ^ 9 := Nat.mul_le_mul_right _ (by omega)
            omega
          · have : b.toNat % 128 * 128 ^ i ≤ 127 * 128 ^ i := Nat.mul_le_mul_right _ (by omega)
            have h128 : 128 ^ i ≤ 128 ^ 8 := Nat.pow_le_pow_right (by omega) (by omega)
            omega
theorem numberF_ok {low high n : Int} {k : Nat} {l : List UInt8} (h : numberF low high l = .ok (n, k)) : low ≤ n ∧ n ≤ high ∧ 0 < k ∧ k ≤ l.length := by
  unfold numberF at h
  by_cases h0 : high < low
  · rw [if_pos h0] at h; cases h
  · rw [if_neg h0] at h
    cases hs : scan 0 0 l with
    | error e => rw [hs] at h; cases h
    | ok x =>
      obtain ⟨u, k'⟩ := x
      rw [hs] at h
      simp only at h
      by_cases h1 : unfoldI u < low ∨ high < unfoldI u
      · rw [if_pos h1] at h; cases h
      · rw [if_neg h1] at h
        injection h with h
        injection h with h3 h4
        subst h3; subst h4
        have := scan_ok hs
        omega
theorem andNot128 (b : UInt8) : bits .andNot .u8 (b.toNat : Int) 128 = ((b.toNat % 128 : Nat) : Int) := by
  have hb := b.toNat_lt
  rw [show (128 : Int) = ((128 : Nat) : Int) from rfl, u8_andNot_nat _ _ (by omega) (by omega), show 255 - 128 = 127 from rfl, nat_mask7]
theorem or_add (i u x : Nat) (hu : u < 128 ^ i) (h : u + x * 128 ^ i < 18446744073709551616) : bits .or .u64 (u : Int) ((x * 128 ^ i : Nat) : Int) = ((u + x * 128 ^ i : Nat) : Int) := by
  rw [u64_or_nat _ _ (by omega) (by omega)]
  congr 1
  rw [Nat.or_comm, nat_join (7 * i) (x * 128 ^ i) u (by rw [Nat.pow_mul]; exact Nat.mul_mod_left _ _) (by rw [Nat.pow_mul]; exact hu)]
  omega
theorem shl_pow (x i : Nat) {j : Int} (hj : j = (i : Int)) (h : x * 128 ^ i < 18446744073709551616) : IntKind.u64.wrap ((x : Int) * 2 ^ (7 * j).toNat) = ((x * 128 ^ i : Nat) : Int) := by
  subst hj
  rw [wrap_u64, show (7 * (i : Int)).toNat = 7 * i from by omega]
  have e : ((2 : Int) ^ (7 * i)) = ((128 ^ i : Nat) : Int) := by rw [show (128 : Nat) = 2 ^ 7 from rfl, ← Nat.pow_mul]; simp
  rw [e, ← Int.natCast_mul]
  omega
theorem ofInt_i64' (a : Nat) (ha : a < 9223372036854775808) : (BitVec.ofInt 64 (a : Int)).toNat = a := by
  rw [BitVec.ofInt_natCast, BitVec.toNat_ofNat]; exact Nat.mod_eq_of_lt (by omega)
/-- int(u >> 1) ^ -int(u & 1) is the number whose fold u is. -/
theorem unfold_bits (u z : Nat) (hu : u < 18446744073709551616) (hz : z = u % 2) : bits .xor .i64 ((u : Int) / 2) (-(z : Int)) = unfoldI u := by
  unfold unfoldI
  rw [show ((u : Int) / 2) = ((u / 2 : Nat) : Int) from by omega]
  show IntKind.i64.wrap ((BitVec.ofInt 64 ((u / 2 : Nat) : Int) ^^^ BitVec.ofInt 64 (-(z : Int))).toNat : Int) = _
  rcases (show u % 2 = 0 ∨ u % 2 = 1 from by omega) with h | h
  · rw [if_pos h, hz, h]
    have h2 : (BitVec.ofInt 64 (-((0 : Nat) : Int))).toNat = 0 := by decide
    rw [BitVec.toNat_xor, ofInt_i64' _ (by omega), h2, Nat.xor_zero, IntKind.wrap_i64]
    omega
  · rw [if_neg (by omega), hz, h]
    have h2 : (BitVec.ofInt 64 (-((1 : Nat) : Int))).toNat = 18446744073709551615 := by decide
    rw [BitVec.toNat_xor, ofInt_i64' _ (by omega), h2, u64_ones' _ (by omega), IntKind.wrap_i64]
    omega
theorem and1 (u : Nat) (hu : u < 18446744073709551616) : bits .and .u64 (u : Int) 1 = ((u % 2 : Nat) : Int) := by
  rw [show (1 : Int) = ((1 : Nat) : Int) from rfl, u64_and_nat _ _ hu (by omega), nat_mask1]
/-- The number that bytes say, the highest first. -/
def beVal (l : List UInt8) : Nat := l.foldl (fun v b => v * 256 + b.toNat) 0
def takeF (n : Nat) (l : List UInt8) : Except Int (Nat × Nat) := if l.length < n then .error 20 else .ok (beVal (l.take n), n)
theorem beVal_take {p : List UInt8} {k : Nat} (h : k < p.length) : beVal (p.take (k + 1)) = beVal (p.take k) * 256 + p[k].toNat := by
  rw [List.take_succ_eq_append_getElem h]; unfold beVal; rw [List.foldl_append]; rfl
theorem beVal_lt (p : List UInt8) (k : Nat) : beVal (p.take k) < 256 ^ k := by
  induction k with
  | zero => simp [beVal]
  | succ k ih =>
    by_cases h : k < p.length
    · rw [beVal_take h, Nat.pow_succ]; have := p[k].toNat_lt; omega
    · rw [List.take_of_length_le (by omega)]
      rw [List.take_of_length_le (by omega)] at ih
      rw [Nat.pow_succ]; omega
theorem or_byte (v b : Nat) (hv : v * 256 + b < 18446744073709551616) (hb : b < 256) : bits .or .u64 ((v * 256 : Nat) : Int) (b : Int) = ((v * 256 + b : Nat) : Int) := by
  have h2 : v * 256 < 18446744073709551616 := Nat.lt_of_le_of_lt (Nat.le_add_right _ _) hv
  have h3 : b < 18446744073709551616 := Nat.lt_of_le_of_lt (Nat.le_add_left _ _) hv
  rw [u64_or_nat (v * 256) b h2 h3, nat_join 8 (v * 256) b (Nat.mul_mod_left v (2 ^ 8)) hb]
theorem wrap_mul256 (v : Nat) (hv : v < 256 ^ 7) : IntKind.u64.wrap ((v : Int) * 256) = (v : Int) * 256 := by
  rw [wrap_u64]; omega
theorem or_byte' (v : Nat) (b : UInt8) (hv : v < 256 ^ 7) : bits .or .u64 ((v : Int) * 256) (b.toNat : Int) = ((v * 256 + b.toNat : Nat) : Int) := by
  have hb := b.toNat_lt
  have := or_byte v b.toNat (by omega) (by omega)
  rw [← this, Int.natCast_mul]; rfl
theorem takeF_lt {w n k : Nat} {l : List UInt8} (h : takeF w l = .ok (n, k)) : n < 256 ^ w ∧ k = w ∧ w ≤ l.length := by
  unfold takeF at h
  by_cases h0 : l.length < w
  · rw [if_pos h0] at h; cases h
  · rw [if_neg h0] at h
    injection h with h
    injection h with h1 h2
    subst h1
    exact ⟨beVal_lt l w, h2.symm, by omega⟩

end Go.Proofs.YtmnpchncmbnddaaGreat
/- The reader's inner functions: number, block. -/
namespace Go.Proofs.YtmnpchncmbnddaaGreat
open Go.RowKit

/-- What number answers, r being the plain answer: the number, the place behind it; or it gives up. -/
def GivesN (w : World) (g : Nat) (A : Option Addr) (c : Nat) (l : List UInt8) (at_ : Nat) (f : Int) (r : Except Int (Int × Nat)) (e : Ending) (w' : World) : Prop :=
  w.grownBy w' (some g) ∧ match r with
  | .ok (n, k) => e = .returned (.int .i64 n) ∧ RdAt w' g A c l (at_ + k) f
  | .error m => e = gaveUp m ∧ ∃ at', RdAt w' g A c l at' f

theorem number_arg {w : World} {g : Nat} {A : Option Addr} {c : Nat} {l : List UInt8} {at_ : Nat} {f : Int} (HR : RdAt w g A c l at_ f) (low high : Int) (hn : high < low) :
    Calls Tryz.prog 201 #[.pointer (some ⟨g, 0, none⟩), .int .i64 low, .int .i64 high] w (GivesN w g A c l at_ f (numberF low high (l.drop at_))) := by
  have HN := Lib.hid (show numberF low high (l.drop at_) = .error 2 from by unfold numberF; rw [if_pos hn])
  have H := Lib.hid HR
  clear HR
  go_enter Tryz.func201, Tryz.ntmps201
  go_wp2
  refine ⟨rfl, World.grownBy.refl _ _, ?_⟩
  rw [HN.out]
  exact ⟨rfl, _, H.out⟩
set_option maxRecDepth 100000 in
set_option maxHeartbeats 400000 in
theorem number_any {w : World} {g : Nat} {A : Option Addr} {c : Nat} {l : List UInt8} {at_ : Nat} {f : Int} (HR : RdAt w g A c l at_ f) (low high : Int) :
    Calls Tryz.prog 201 #[.pointer (some ⟨g, 0, none⟩), .int .i64 low, .int .i64 high] w (GivesN w g A c l at_ f (numberF low high (l.drop at_))) := by
  by_cases hn : high < low
  · exact number_arg HR low high hn
  have H := Lib.hid HR
  clear HR
  go_enter Tryz.func201, Tryz.ntmps201
  go_wp2
  go_loopw [7, 8] (fun u i wr => ∃ (U I : Nat), u = .int .u64 U ∧ i = .int .i64 I ∧ I ≤ 9 ∧ Hid (U < 128 ^ I) ∧ Hid (scan 0 0 (l.drop at_) = scan I U (l.drop (at_ + I))) ∧ Hid (RdAt wr g A c l (at_ + I) f) ∧ Hid (w.grownBy wr (some g))) (fun _ i _ => 9 - (intOf i).toNat)
  case atStart => exact ⟨0, 0, rfl, rfl, by omega, Lib.hid (by decide), Lib.hid rfl, H, Lib.hid (World.grownBy.refl _ _)⟩
  case round =>
    obtain ⟨U, I, rfl, rfl, hI, hU, hS, hR, hG⟩ := hrel
    by_cases hlt : at_ + I < l.length
    · go_wp2_with fail
      refine (take_ok hR.out 1 (by omega)).mono ?_
      rintro e w1 ⟨A1, rfl, R1, G1, S1⟩
      have e1 : (l.drop (at_ + I)).take 1 = [l[at_ + I]] := by rw [List.drop_eq_getElem_cons hlt]; rfl
      rw [e1] at S1
      obtain ⟨b1, o1, rfl, hb1, hc1⟩ := S1.out.at_ (k := 0) (by simp)
      obtain ⟨b, hb⟩ : ∃ b, b = l[at_ + I] := ⟨_, rfl⟩
      simp only [List.getElem_cons_zero, Nat.add_zero, ← hb] at hc1
      have HB := Lib.hid hb
      have hbl : (b.toNat : Int) < 256 := by have := b.toNat_lt; omega
      clear hb e1 S1 hb1
      obtain ⟨x, hx⟩ : ∃ x : Nat, x = b.toNat % 128 := ⟨_, rfl⟩
      obtain ⟨y, hy⟩ : ∃ y : Nat, y = x * 128 ^ I := ⟨_, rfl⟩
      obtain ⟨V, hV⟩ : ∃ V : Nat, V = U + y := ⟨_, rfl⟩
      have hx1 : (x : Int) < 128 := by omega
      have Ea : bits .andNot .u8 (b.toNat : Int) 128 = (x : Int) := by rw [andNot128, hx]
      have hs1 : scan I U (l.drop (at_ + I)) = if I = 9 ∧ 1 < b.toNat then .error 21 else if 128 ≤ b.toNat then scan (I + 1) V (l.drop (at_ + I + 1)) else if b.toNat = 0 ∧ 0 < I then .error 21 else .ok (V, I + 1) := by
        rw [List.drop_eq_getElem_cons hlt, scan, ← HB.out, hV, hy, hx]
      have HS := Lib.hid hs1
      clear hs1
      by_cases hbad : I = 9 ∧ 1 < b.toNat
      · obtain ⟨h9, hb1⟩ := hbad
        have hb1' : (1 : Int) < (b.toNat : Int) := by omega
        have HE := Lib.hid (show numberF low high (l.drop at_) = .error 21 from by unfold numberF; rw [if_neg (by omega), hS.out, HS.out, if_pos ⟨h9, hb1⟩])
        have h9b : ((I : Int) == 9) = true := by simp; omega
        clear hx hy hV h9 hb1
        go_wp2
        exact ⟨rfl, grown_trans hG.out G1.out, by rw [HE.out]; exact ⟨rfl, _, R1.out⟩⟩
      · have hUy : y ≤ (if I = 9 then 1 else 127) * 128 ^ I := by rw [hy]; exact Nat.mul_le_mul_right _ (by split <;> omega)
        have hV64 : V < 18446744073709551616 := by
          have := hU.out
          by_cases h9 : I = 9
          · subst h9; rw [if_pos rfl] at hUy; omega
          · rw [if_neg h9] at hUy
            have h128 : 128 ^ I ≤ 128 ^ 8 := Nat.pow_le_pow_right (by omega) (by omega)
            omega
        have Eb : IntKind.u64.wrap ((x : Int) * 2 ^ (7 * I)) = (y : Int) := by
          have := shl_pow x I (j := I) rfl (by omega)
          rw [show (7 * (I : Int)).toNat = 7 * I from by omega] at this
          rw [this, hy]
        have Ec : bits .or .u64 (U : Int) (y : Int) = (V : Int) := by rw [hy, hV, hy]; exact or_add I U x hU.out (by omega)
        have hV' := Lib.hid (show V < 18446744073709551616 from hV64)
        have Es : wrap64 ((V : Int) / 2) = (V : Int) / 2 := by unfold wrap64; omega
        have HV : Hid (128 ≤ b.toNat → V < 128 ^ (I + 1)) := Lib.hid (fun h => by
          have h9 : ¬ I = 9 := by omega
          rw [if_neg h9] at hUy
          have := hU.out
          rw [Nat.pow_succ]; omega)
        have HNB := Lib.hid hbad
        clear hx hy hV hUy hV64 hbad
        by_cases hm : 128 ≤ b.toNat
        · have hm' : (128 : Int) ≤ (b.toNat : Int) := by omega
          have h9 : ¬ (I : Int) = 9 := by have := HNB.out; omega
          have h9b : ((I : Int) == 9) = false := by simpa using h9
          have HSM := Lib.hid (show scan 0 0 (l.drop at_) = scan (I + 1) V (l.drop (at_ + I + 1)) from by rw [hS.out, HS.out, if_neg HNB.out, if_pos hm])
          have HM := Lib.hid hm
          clear hm h9
          go_wp2
          go_roundw
          case rel => exact ⟨V, I + 1, rfl, by go_num, by have := HNB.out; have := HM.out; omega, Lib.hid (HV.out HM.out), HSM, R1, Lib.hid (grown_trans hG.out G1.out)⟩
          case measure => simp [intOf]; have := HNB.out; have := HM.out; omega
        · have hm' : ¬ (128 : Int) ≤ (b.toNat : Int) := by omega
          have hz0 : b.toNat ≠ 0 ∨ I = 0 ∨ (b.toNat = 0 ∧ 0 < I) := by omega
          have HM := Lib.hid hm
          clear hm
          obtain ⟨z, hz⟩ : ∃ z : Nat, z = V % 2 := ⟨_, rfl⟩
          have hz1 : (z : Int) < 2 := by omega
          have Ed : bits .and .u64 (V : Int) 1 = (z : Int) := by rw [and1 V hV'.out, hz]
          obtain ⟨N, hN⟩ : ∃ N : Int, N = unfoldI V := ⟨_, rfl⟩
          have Ee : bits .xor .i64 ((V : Int) / 2) (-(z : Int)) = N := by rw [hN]; exact unfold_bits V z hV'.out hz
          have HN := Lib.hid hN
          clear hz hN
          have h9e : ((I : Int) == 9) = true ∧ ¬ (1 : Int) < (b.toNat : Int) ∨ ((I : Int) == 9) = false := by
            by_cases h9 : I = 9
            · exact .inl ⟨by simp; omega, by have := HNB.out; omega⟩
            · exact .inr (by simp; omega)
          by_cases hzz : b.toNat = 0 ∧ 0 < I
          · have HE := Lib.hid (show numberF low high (l.drop at_) = .error 21 from by unfold numberF; rw [if_neg (by omega), hS.out, HS.out, if_neg HNB.out, if_neg HM.out, if_pos hzz])
            have hb0 : ((b.toNat : Int) == 0) = true := by simp; omega
            have hI0 : (0 : Int) < (I : Int) := by omega
            clear hzz hz0
            rcases h9e with ⟨h9b, hb1⟩ | h9b
            all_goals
              go_wp2
              exact ⟨rfl, grown_trans hG.out G1.out, by rw [HE.out]; exact ⟨rfl, _, R1.out⟩⟩
          · have hz' : ((b.toNat : Int) == 0) = true ∧ ¬ (0 : Int) < (I : Int) ∨ ((b.toNat : Int) == 0) = false := by
              by_cases h0 : b.toNat = 0
              · exact .inl ⟨by simp; omega, by omega⟩
              · exact .inr (by simp; omega)
            have HNF := Lib.hid (show numberF low high (l.drop at_) = if N < low ∨ high < N then .error 21 else .ok (N, I + 1) from by unfold numberF; rw [if_neg (by omega), hS.out, HS.out, if_neg HNB.out, if_neg HM.out, if_neg hzz, HN.out])
            clear hzz hz0
            by_cases hr : N < low ∨ high < N
            · have HE := Lib.hid (show numberF low high (l.drop at_) = .error 21 from by rw [HNF.out, if_pos hr])
              have hr' : N < low ∨ ¬ N < low ∧ high < N := by omega
              clear hr
              rcases hr' with hr1 | ⟨hr1, hr2⟩
              all_goals rcases h9e with ⟨h9b, hb1⟩ | h9b
              all_goals rcases hz' with ⟨hz0, hz2⟩ | hz0
              all_goals
                go_wp2
                exact ⟨rfl, grown_trans hG.out G1.out, by rw [HE.out]; exact ⟨rfl, _, R1.out⟩⟩
            · have HE := Lib.hid (show numberF low high (l.drop at_) = .ok (N, I + 1) from by rw [HNF.out, if_neg hr])
              have hr1 : ¬ N < low := by omega
              have hr2 : ¬ high < N := by omega
              clear hr
              rcases h9e with ⟨h9b, hb1⟩ | h9b
              all_goals rcases hz' with ⟨hz0, hz2⟩ | hz0
              all_goals
                go_wp2
                go_ret
                exact ⟨grown_trans hG.out G1.out, by rw [HE.out]; exact ⟨rfl, R1.out⟩⟩
    · have HE := Lib.hid (show numberF low high (l.drop at_) = .error 20 from by
        unfold numberF; rw [if_neg (by omega), hS.out, List.drop_of_length_le (by omega)]; rfl)
      go_wp2_with fail
      refine (take_cut hR.out 1 (by omega)).mono ?_
      rintro e w1 ⟨rfl, m, rfl⟩
      unfold gaveUp
      go_wp2
      exact ⟨rfl, grown_trans hG.out (drewN_grown _ _ _), by rw [HE.out]; exact ⟨rfl, _, hR.out.drewN m⟩⟩

end Go.Proofs.YtmnpchncmbnddaaGreat
/- The reader's inner function block; reading. -/
namespace Go.Proofs.YtmnpchncmbnddaaGreat
open Go.RowKit

/-- What block answers, r being the plain answer: bytes of the reader's own; or it gives up. -/
def GivesBl (w : World) (g : Nat) (A : Option Addr) (c : Nat) (l : List UInt8) (at_ : Nat) (f : Int) (r : Except Int (List UInt8 × Nat)) (e : Ending) (w' : World) : Prop :=
  w.grownBy w' (some g) ∧ match r with
  | .ok (p, k) => ∃ A' c', e = .returned (.slice A' p.length c') ∧ BReads w' g A' p ∧ RdAt w' g A c l (at_ + k) f
  | .error m => e = gaveUp m ∧ ∃ at', RdAt w' g A c l at' f

theorem block_any {w : World} {g : Nat} {A : Option Addr} {c : Nat} {l : List UInt8} {at_ : Nat} {f : Int} (HR : RdAt w g A c l at_ f) (most : Int) :
    Calls Tryz.prog 199 #[.pointer (some ⟨g, 0, none⟩), .int .i64 most] w (GivesBl w g A c l at_ f (blockF most (l.drop at_))) := by
  by_cases hm : most < 0
  · have HN := Lib.hid (show blockF most (l.drop at_) = .error 2 from by unfold blockF; rw [if_pos hm])
    have H := Lib.hid HR
    clear HR
    go_enter Tryz.func199, Tryz.ntmps199
    go_wp2
    refine ⟨rfl, World.grownBy.refl _ _, ?_⟩
    rw [HN.out]
    exact ⟨rfl, _, H.out⟩
  · have H := Lib.hid HR
    clear HR
    go_enter Tryz.func199, Tryz.ntmps199
    go_wp2_with fail
    refine (number_any H.out 0 most).mono ?_
    rintro e w1 ⟨hg, hr⟩
    have G1 := Lib.hid hg
    clear hg
    cases hn : numberF 0 most (l.drop at_) with
    | error m =>
      have HE := Lib.hid (show blockF most (l.drop at_) = .error m from by unfold blockF; rw [if_neg (by omega), hn])
      rw [hn] at hr
      obtain ⟨rfl, at', hr'⟩ := hr
      have R1 := Lib.hid hr'
      clear hr' hn
      unfold gaveUp
      go_wp2
      exact ⟨rfl, G1.out, by rw [HE.out]; exact ⟨rfl, _, R1.out⟩⟩
    | ok x =>
      obtain ⟨n, k⟩ := x
      rw [hn] at hr
      obtain ⟨rfl, hr'⟩ := hr
      have R1 := Lib.hid hr'
      have hb := numberF_ok hn
      obtain ⟨n, rfl⟩ := Int.eq_ofNat_of_zero_le hb.1
      have hld : (l.drop at_).length = l.length - at_ := List.length_drop
      by_cases hcut : (l.length : Int) - ((at_ + k : Nat) : Int) < (n : Int)
      · have HE := Lib.hid (show blockF most (l.drop at_) = .error 20 from by unfold blockF; rw [if_neg (by omega), hn]; simp only; rw [if_pos (by omega)])
        clear hr' hn hb hld
        go_wp2_with fail
        refine (take_cut R1.out n hcut).mono ?_
        rintro e w2 ⟨rfl, m, rfl⟩
        unfold gaveUp
        go_wp2
        exact ⟨rfl, grown_trans G1.out (drewN_grown _ _ _), by rw [HE.out]; exact ⟨rfl, _, R1.out.drewN m⟩⟩
      · have hp : (((l.drop at_).drop k).take n).length = n := by rw [List.length_take, List.length_drop]; have := H.out.le; omega
        have HE := Lib.hid (show blockF most (l.drop at_) = .ok (((l.drop at_).drop k).take n, k + n) from by unfold blockF; rw [if_neg (by omega), hn]; simp only; rw [if_neg (by have := H.out.le; omega), Int.toNat_natCast])
        have HP := Lib.hid hp
        have hle : at_ + k + n ≤ l.length := by omega
        clear hr' hn hb hld hp
        go_wp2_with fail
        refine (take_ok R1.out n hle).mono ?_
        rintro e w2 ⟨A2, rfl, R2, G2, S2⟩
        go_wp2
        go_ret
        refine ⟨grown_trans G1.out G2.out, ?_⟩
        rw [HE.out]
        exact ⟨A2, _, by rw [HP.out]; rfl, by rw [List.drop_drop]; exact S2.out, by rw [← Nat.add_assoc]; exact R2.out⟩
end Go.Proofs.YtmnpchncmbnddaaGreat
/- reading: the deferred closure that recovers; by a contract for whatever closure it calls. -/
namespace Go.Proofs.YtmnpchncmbnddaaGreat
open Go.RowKit

/-- w' is w with new blocks, and with writes to the blocks of S alone. -/
structure Keeps (S : Nat → Prop) (w w' : World) : Prop where
  os : w'.os = w.os
  tape : w'.tape = w.tape
  output : w'.output = w.output
  size : w.heap.size ≤ w'.heap.size
  block : ∀ k, k < w.heap.size → ¬ S k → w'.heap[k]? = w.heap[k]?
theorem Keeps.refl (S : Nat → Prop) (w : World) : Keeps S w w := ⟨rfl, rfl, rfl, Nat.le_refl _, fun _ _ _ => rfl⟩
theorem Keeps.trans {S S' : Nat → Prop} {a b c : World} (h : Keeps S a b) (k : Keeps S' b c) (hs : ∀ i, S' i → S i ∨ a.heap.size ≤ i) : Keeps S a c :=
  ⟨k.os.trans h.os, k.tape.trans h.tape, k.output.trans h.output, Nat.le_trans h.size k.size, fun i hi hn => (k.block i (Nat.lt_of_lt_of_le hi h.size) (fun e => (hs i e).elim hn (fun h => by omega))).trans (h.block i hi hn)⟩
theorem Keeps.of_grown {w w' : World} {row : Option Nat} (h : w.grownBy w' row) : Keeps (fun k => some k = row) w w' := ⟨h.os, h.tape, h.output, h.size, fun k hk hn => h.block k hk hn⟩
theorem Keeps.of_below {w w' : World} (h : Below w.heap.size w w') (S : Nat → Prop) : Keeps S w w' := ⟨h.os, h.tape, h.output, h.size, fun k hk _ => h.block k hk⟩
theorem Keeps.mono {S S' : Nat → Prop} {w w' : World} (h : Keeps S w w') (hs : ∀ i, S i → S' i ∨ w.heap.size ≤ i) : Keeps S' w w' :=
  ⟨h.os, h.tape, h.output, h.size, fun i hi hn => h.block i hi (fun e => (hs i e).elim hn (fun h => by omega))⟩
theorem Keeps.below {S : Nat → Prop} {w w' : World} {B : Nat} (h : Keeps S w w') (hB : B ≤ w.heap.size) (hs : ∀ i, S i → B ≤ i) : Below B w w' :=
  ⟨h.os, h.tape, h.output, h.size, fun k hk => h.block k (by omega) (fun e => by have := hs k e; omega)⟩
theorem Keeps.alloc {S : Nat → Prop} {a w : World} (h : Keeps S a w) (o : Obj) : Keeps S a (w.alloc o) :=
  ⟨h.os, h.tape, h.output, Nat.le_trans h.size (by simp), fun k hk hn => (heap_old w o k (Nat.lt_of_lt_of_le hk h.size)).trans (h.block k hk hn)⟩
theorem Keeps.setCell {S : Nat → Prop} {a w : World} (h : Keeps S a w) {p : Addr} (hp : S p.block ∨ a.heap.size ≤ p.block) (u : Value) : Keeps S a (w.setCell p u) :=
  ⟨h.os, h.tape, h.output, by simpa [World.setCell] using h.size, fun k hk hn => (Below.heap_setCell w p u k (fun e => by subst e; exact hp.elim hn (fun h => by omega))).trans (h.block k hk hn)⟩
theorem Keeps.drewN {S : Nat → Prop} {a w : World} (h : Keeps S a w) (m : Nat) : Keeps S a (w.drewN m) := ⟨h.os, h.tape, h.output, h.size, h.block⟩
theorem Blk.keeps {S : Nat → Prop} {w w' : World} {g : Nat} {t : TypeId} {cs : Array Value} (h : Blk w g t cs) (hk : Keeps S w w') (hg : ¬ S g) : Blk w' g t cs := (hk.block g h.lt hg).trans h
theorem RdAt.keeps {S : Nat → Prop} {w w' : World} {g : Nat} {A : Option Addr} {c : Nat} {l : List UInt8} {at_ : Nat} {f : Int} (h : RdAt w g A c l at_ f) (hk : Keeps S w w') (hs : ∀ i, S i → g < i) : RdAt w' g A c l at_ f :=
  ⟨h.blk.keeps hk (fun e => by have := hs _ e; omega), h.reads.below (hk.below (Nat.le_of_lt h.blk.lt) (fun i hi => Nat.le_of_lt (hs i hi))), h.cap, h.le, h.small, h.ours.keep h.reads (fun i hi => hk.block i (Nat.lt_trans hi h.blk.lt) (fun e => by have := hs i e; omega))⟩
theorem RdAt.faulted {w : World} {g : Nat} {A : Option Addr} {c : Nat} {l : List UInt8} {at_ : Nat} {f : Int} (h : RdAt w g A c l at_ f) (k : Nat) (hk : k ≤ l.length) (m : Int) :
    RdAt ((w.setCell ⟨g, 1, none⟩ (.int .i64 (k : Int))).setCell ⟨g, 2, none⟩ (.int .i64 m)) g A c l k m := by
  refine ⟨?_, ?_, h.cap, hk, h.small, h.ours.keep h.reads (fun i hi => (Below.heap_setCell _ ⟨g, 2, none⟩ _ i (by show i ≠ g; omega)).trans (Below.heap_setCell w ⟨g, 1, none⟩ _ i (by show i ≠ g; omega)))⟩
  · have := (h.blk.set_ 1 (.int .i64 (k : Int))).set_ 2 (.int .i64 m)
    simpa using this
  · exact Reads.setCell (p := ⟨g, 2, none⟩) (Reads.setCell (p := ⟨g, 1, none⟩) h.reads (Nat.le_refl _) _) (Nat.le_refl _) _

theorem reading_fault {w : World} {g : Nat} {A : Option Addr} {c : Nat} {l : List UInt8} {at_ : Nat} {f : Int} (HR : RdAt w g A c l at_ f) (hf : ¬ f = 0) (fv : Value) :
    Calls Tryz.prog 194 #[.pointer (some ⟨g, 0, none⟩), fv] w fun e w' => e = .returned (.tuple #[]) ∧ Below w.heap.size w w' := by
  have hlt := HR.blk.lt
  have h2 : (w.alloc (.cells #[.pointer (some ⟨g, 0, none⟩)] 229)).cell? ⟨g, 2, none⟩ = some (.int .i64 f) := by
    have := (HR.blk.alloc (.cells #[.pointer (some ⟨g, 0, none⟩)] 229)).cell 2
    simpa using this
  have hb : ((f : Int) != 0) = true := by simpa using hf
  clear HR
  go_enter_defers Tryz.func194, Tryz.ntmps194
  go_wp2
  simp [bodyPostD, Leaves, results, Tryz.results194]
  exact (Below.refl _ _).alloc (Nat.le_refl _) _
set_option maxRecDepth 100000 in
theorem reading_any {w : World} {g : Nat} {A : Option Addr} {c : Nat} {l : List UInt8} {at_ : Nat} (HR : RdAt w g A c l at_ 0) (F : FuncId) (caps : Array Value) (S : Nat → Prop) (hS : ∀ k, S k → k < w.heap.size) (hg : S g)
    (hcall : ∀ w' : World, (callFunc F caps).run Tryz.prog w' = .ok (.enter F caps) w') (Ok : World → Prop) (Bad : Int → World → Prop)
    (hdo : ∀ w1, Below w.heap.size w w1 → Calls Tryz.prog F caps w1 fun e w2 => Keeps S w1 w2 ∧ (e = .returned (.tuple #[]) ∧ Ok w2 ∨ ∃ m, e = gaveUp m ∧ Bad m w2 ∧ ∃ at', RdAt w2 g A c l at' 0)) :
    Calls Tryz.prog 194 #[.pointer (some ⟨g, 0, none⟩), .func (.func F) #[] caps] w fun e w' => e = .returned (.tuple #[]) ∧ Keeps S w w' ∧
      (Ok w' ∨ ∃ m w2, Bad m w2 ∧ Keeps S w w2 ∧ w' = (w2.setCell ⟨g, 1, none⟩ (.int .i64 at_)).setCell ⟨g, 2, none⟩ (.int .i64 m) ∧ ∃ at', RdAt w2 g A c l at' 0) := by
  have hlt := HR.blk.lt
  have h1 : (w.alloc (.cells #[.pointer (some ⟨g, 0, none⟩)] 229)).cell? ⟨g, 1, none⟩ = some (.int .i64 at_) := by
    have := (HR.blk.alloc (.cells #[.pointer (some ⟨g, 0, none⟩)] 229)).cell 1
    simpa using this
  have h2 : (w.alloc (.cells #[.pointer (some ⟨g, 0, none⟩)] 229)).cell? ⟨g, 2, none⟩ = some (.int .i64 0) := by
    have := (HR.blk.alloc (.cells #[.pointer (some ⟨g, 0, none⟩)] 229)).cell 2
    simpa using this
  have hmf : ∀ (fn : Fn) (first cap : Array Value) (w : World), (Instr.makeFunc fn first cap).run Tryz.prog w = .ok (.func fn first cap) w := fun _ _ _ _ => rfl
  have H := Lib.hid HR
  have HDO := Lib.hid hdo
  have HS := Lib.hid hS
  clear HR hdo hS
  go_enter_defers Tryz.func194, Tryz.ntmps194
  go_wp2
  have B1 := Lib.hid (((Below.refl _ _).alloc (Nat.le_refl _) (.cells #[.pointer (some ⟨g, 0, none⟩)] 229)).alloc (by simp) (.cells #[.int .i64 at_] 3) : Below w.heap.size w _)
  have R1 := Lib.hid (Blk.alloc (Blk.new w 229 #[.pointer (some ⟨g, 0, none⟩)]) (.cells #[.int .i64 at_] 3))
  have N1 := Lib.hid (Blk.new (w.alloc (.cells #[.pointer (some ⟨g, 0, none⟩)] 229)) 3 #[.int .i64 at_])
  refine (HDO.out _ B1.out).mono ?_
  rintro e w2 ⟨hk, h⟩
  have K2 := Lib.hid (((Keeps.refl S w).alloc _).alloc _ |>.trans hk (fun i hi => .inl hi))
  have R2 := Lib.hid (R1.out.keeps hk (fun e => by have := HS.out _ e; omega))
  have N2 := Lib.hid (N1.out.keeps hk (fun e => by have := HS.out _ e; simp at this; omega))
  clear hk
  rcases h with ⟨rfl, hok⟩ | ⟨m, rfl, hbad, at', hr⟩
  · have HOK := Lib.hid hok
    clear hok
    go_wp2
    refine leaves_cons (f := 218) (args := #[.pointer (some ⟨w.heap.size + 1, 0, none⟩), .pointer (some ⟨w.heap.size, 0, none⟩)]) (by simp) (by simp [go_sem]) ?_
    refine (reading1_idle _ _ _).mono ?_
    rintro e u' w'' ⟨rfl, rfl, rfl⟩
    simp [Leaves, settle, results, Tryz.results194]
    exact ⟨K2.out, .inl HOK.out⟩
  · have HB := Lib.hid hbad
    have HR := Lib.hid hr
    clear hbad hr
    unfold gaveUp
    go_wp2
    refine leaves_cons (f := 218) (args := #[.pointer (some ⟨w.heap.size + 1, 0, none⟩), .pointer (some ⟨w.heap.size, 0, none⟩)]) (by simp) (by simp [go_sem]) ?_
    refine (reading1_catch (w.heap.size + 1) w.heap.size g at' m at_ [] _ w2 (by simpa using N2.out) R2.out HR.out.blk).mono ?_
    rintro e u' w'' ⟨rfl, rfl, rfl⟩
    simp [Leaves, settle, results, Tryz.results194]
    exact ⟨(K2.out.setCell (.inl hg) _).setCell (.inl hg) _, .inr ⟨m, w2, HB.out, K2.out, rfl, at', HR.out⟩⟩
end Go.Proofs.YtmnpchncmbnddaaGreat
/- The reader's methods Int, Bytes, Text, Left, Fault, End, Open: by contract, against a plain reader. -/
namespace Go.Proofs.YtmnpchncmbnddaaGreat
open Go.RowKit

/-- The plain reader: bytes, a place, a fault. -/
structure Rd where
  l : List UInt8
  at_ : Nat
  f : Int
def Rd.step {α : Type} (r : Rd) (none : α) (x : Except Int (α × Nat)) : α × Rd :=
  if r.f = 0 then
    match x with
    | .ok (a, k) => (a, { r with at_ := r.at_ + k })
    | .error m => (none, { r with f := m })
  else (none, r)
def Rd.int (r : Rd) (low high : Int) : Int × Rd := r.step 0 (numberF low high (r.l.drop r.at_))
def Rd.take (r : Rd) (n : Nat) : Nat × Rd := r.step 0 (takeF n (r.l.drop r.at_))
def Rd.bytes (r : Rd) (most : Int) : List UInt8 × Rd := r.step [] (blockF most (r.l.drop r.at_))
theorem blockF_len {most : Int} {l p : List UInt8} {k : Nat} (h : blockF most l = .ok (p, k)) : p.length ≤ l.length ∧ k ≤ l.length := by
  unfold blockF at h
  by_cases h0 : most < 0
  · rw [if_pos h0] at h; cases h
  · rw [if_neg h0] at h
    cases hn : numberF 0 most l with
    | error e => rw [hn] at h; cases h
    | ok x =>
      obtain ⟨n, j⟩ := x
      rw [hn] at h
      simp only at h
      by_cases h1 : (l.length : Int) - j < n
      · rw [if_pos h1] at h; cases h
      · rw [if_neg h1] at h
        injection h with h
        injection h with h3 h4
        have := numberF_ok hn
        subst h3; subst h4
        refine ⟨by rw [List.length_take, List.length_drop]; omega, by omega⟩
/-- An owned row while a cell of a block of another element type is written. -/
theorem BOwns.setOther {w : World} {base b o : Nat} {v u : Value} {l : List UInt8} {t : TypeId} {cs : Array Value} (h : BOwns w base v l) (hb : Blk w b t cs) (hne : 5 ≠ t) : BOwns (w.setCell ⟨b, o, none⟩ u) base v l := by
  refine World.ownsRow.kept h (row := some b) ⟨rfl, rfl, rfl, by simp [World.setCell], fun k _ hk => Below.heap_setCell w _ u k (fun e => hk (by rw [e]))⟩ ?_
  rcases h.2 with ⟨rfl, _⟩ | ⟨g, cap, cur, rfl, _, hh, _⟩
  · exact .inl rfl
  · refine .inr (fun e => ?_)
    have : g = b := by simpa [Value.ownBlock] using e
    subst this
    unfold Blk at hb
    rw [hb] at hh
    injection hh with hh
    injection hh with _ ht
    exact hne ht.symm
theorem owns_less {w : World} {base base' : Nat} {v : Value} {l : List UInt8} (h : BOwns w base v l) (hb : base' ≤ base) : BOwns w base' v l := by
  refine ⟨h.1, ?_⟩
  rcases h.2 with h2 | ⟨g, cap, cur, hv, hg, r⟩
  · exact .inl h2
  · exact .inr ⟨g, cap, cur, hv, Nat.le_trans hb hg, r⟩

/-- Block g of w is the reader r. -/
def RdIs (w : World) (g : Nat) (r : Rd) : Prop := ∃ A c, RdAt w g A c r.l r.at_ r.f
theorem RdIs.keeps {S : Nat → Prop} {w w' : World} {g : Nat} {r : Rd} (h : RdIs w g r) (hk : Keeps S w w') (hs : ∀ i, S i → g < i) : RdIs w' g r := by
  obtain ⟨A, c, h⟩ := h; exact ⟨A, c, h.keeps hk hs⟩
theorem RdIs.lt {w : World} {g : Nat} {r : Rd} (h : RdIs w g r) : g < w.heap.size := by obtain ⟨A, c, h⟩ := h; exact h.blk.lt
theorem RdIs.below {w w' : World} {g : Nat} {r : Rd} (h : RdIs w g r) (hb : Below w.heap.size w w') : RdIs w' g r := h.keeps (Keeps.of_below hb (fun _ => False)) (fun _ h => h.elim)
theorem int1_any {w : World} {g br bl bh bn : Nat} {A : Option Addr} {c : Nat} {l : List UInt8} {at_ : Nat} {low high : Int} (HR : RdAt w g A c l at_ 0)
    (h1 : Blk w br 229 #[.pointer (some ⟨g, 0, none⟩)]) (h2 : Blk w bl 3 #[.int .i64 low]) (h3 : Blk w bh 3 #[.int .i64 high]) (h4 : Blk w bn 3 #[.int .i64 0]) (hgn : g < bn) :
    Calls Tryz.prog 200 #[.pointer (some ⟨br, 0, none⟩), .pointer (some ⟨bl, 0, none⟩), .pointer (some ⟨bh, 0, none⟩), .pointer (some ⟨bn, 0, none⟩)] w fun e w2 => Keeps (fun k => k = g ∨ k = bn) w w2 ∧
      (e = .returned (.tuple #[]) ∧ (∃ n k, numberF low high (l.drop at_) = .ok (n, k) ∧ Blk w2 bn 3 #[.int .i64 n] ∧ RdAt w2 g A c l (at_ + k) 0) ∨
        ∃ m, e = gaveUp m ∧ (numberF low high (l.drop at_) = .error m ∧ Blk w2 bn 3 #[.int .i64 0]) ∧ ∃ at', RdAt w2 g A c l at' 0) := by
  have c1 := h1.cell 0
  have c2 := h2.cell 0
  have c3 := h3.cell 0
  simp at c1 c2 c3
  have H4 := Lib.hid h4
  have H := Lib.hid HR
  have HG := Lib.hid hgn
  clear HR h1 h2 h3 h4 hgn
  go_enter Tryz.func200, Tryz.ntmps200
  go_wp2_with fail
  refine (number_any H.out low high).mono ?_
  rintro e w1 ⟨hg, hr⟩
  have K1 := Lib.hid (Keeps.of_grown hg)
  have H5 := Lib.hid (H4.out.keeps K1.out (fun e => by have := HG.out; injection e with e; omega))
  clear hg
  cases hn : numberF low high (l.drop at_) with
  | error m =>
    rw [hn] at hr
    obtain ⟨rfl, at', hr'⟩ := hr
    have R1 := Lib.hid hr'
    have HN := Lib.hid hn
    clear hr' hn
    unfold gaveUp
    go_wp2
    exact ⟨rfl, K1.out.mono (fun i h => .inl (.inl (by injection h))), .inr ⟨m, rfl, ⟨HN.out, H5.out⟩, at', R1.out⟩⟩
  | ok x =>
    obtain ⟨n, k⟩ := x
    rw [hn] at hr
    obtain ⟨rfl, hr'⟩ := hr
    have R1 := Lib.hid hr'
    have c4 := H5.out.cell 0
    have f4 := H5.out.frozen 0
    simp at c4
    have HN := Lib.hid hn
    clear hr' hn
    go_wp2
    go_end0
    refine ⟨(K1.out.mono (fun i h => .inl (.inl (by injection h)))).setCell (.inl (.inr rfl)) _, .inl ⟨rfl, n, k, HN.out, ?_, R1.out.keeps ((Keeps.refl (fun i => i = bn) w1).setCell (.inl rfl) _) (fun i h => by have := HG.out; omega)⟩⟩
    have := H5.out.set_ 0 (.int .i64 n)
    simpa using this

theorem bytes1_any {w : World} {g br bm bb : Nat} {A : Option Addr} {c : Nat} {l : List UInt8} {at_ : Nat} {most : Int} (HR : RdAt w g A c l at_ 0)
    (h1 : Blk w br 229 #[.pointer (some ⟨g, 0, none⟩)]) (h2 : Blk w bm 3 #[.int .i64 most]) (h4 : Blk w bb 49 #[.slice none 0 0]) (hgn : g < bb) :
    Calls Tryz.prog 202 #[.pointer (some ⟨br, 0, none⟩), .pointer (some ⟨bm, 0, none⟩), .pointer (some ⟨bb, 0, none⟩)] w fun e w2 => Keeps (fun k => k = g ∨ k = bb) w w2 ∧
      (e = .returned (.tuple #[]) ∧ (∃ p k, blockF most (l.drop at_) = .ok (p, k) ∧ (∃ v, Blk w2 bb 49 #[v] ∧ BOwns w2 w.heap.size v p) ∧ RdAt w2 g A c l (at_ + k) 0) ∨
        ∃ m, e = gaveUp m ∧ (blockF most (l.drop at_) = .error m ∧ Blk w2 bb 49 #[.slice none 0 0]) ∧ ∃ at', RdAt w2 g A c l at' 0) := by
  have c1 := h1.cell 0
  have c2 := h2.cell 0
  simp at c1 c2
  have H4 := Lib.hid h4
  have H := Lib.hid HR
  have HG := Lib.hid hgn
  clear HR h1 h2 h4 hgn
  go_enter Tryz.func202, Tryz.ntmps202
  go_wp2_with fail
  refine (block_any H.out most).mono ?_
  rintro e w1 ⟨hg, hr⟩
  have K1 := Lib.hid (Keeps.of_grown hg)
  have H5 := Lib.hid (H4.out.keeps K1.out (fun e => by have := HG.out; injection e with e; omega))
  clear hg
  cases hn : blockF most (l.drop at_) with
  | error m =>
    rw [hn] at hr
    obtain ⟨rfl, at', hr'⟩ := hr
    have R1 := Lib.hid hr'
    have HN := Lib.hid hn
    clear hr' hn
    unfold gaveUp
    go_wp2
    exact ⟨rfl, K1.out.mono (fun i h => .inl (.inl (by injection h))), .inr ⟨m, rfl, ⟨HN.out, H5.out⟩, at', R1.out⟩⟩
  | ok x =>
    obtain ⟨p, k⟩ := x
    rw [hn] at hr
    obtain ⟨A', c', rfl, hp, hr'⟩ := hr
    have R1 := Lib.hid hr'
    have P1 := Lib.hid hp
    have HN := Lib.hid hn
    have hle : p.length ≤ 140737488355328 := by
      have e0 := (blockF_len hn).1
      have := H.out.small; rw [List.length_drop] at e0; omega
    clear hr' hn hp
    go_wp2_with fail
    refine (own_any P1.out hle).mono ?_
    rintro e w3 h
    obtain ⟨L, A2, c2', rfl, EL, O2, _, B2⟩ := h.named
    have H6 := Lib.hid (H5.out.below B2.out H5.out.lt)
    have c4 := H6.out.cell 0
    have f4 := H6.out.frozen 0
    simp at c4
    clear h hle
    go_wp2
    go_end0
    have KB := Keeps.of_below B2.out (fun _ => False)
    refine ⟨((K1.out.mono (fun i h => .inl (.inl (by injection h)))).trans KB (fun _ h => h.elim)).setCell (.inl (.inr rfl)) _, .inl ⟨rfl, p, k, HN.out, ⟨.slice A2 L.length c2', ?_, ?_⟩, (R1.out.keeps KB (fun _ h => h.elim)).keeps ((Keeps.refl (fun i => i = bb) w3).setCell (.inl rfl) _) (fun i h => by have := HG.out; omega)⟩⟩
    · have := H6.out.set_ 0 (.slice A2 L.length c2')
      simpa using this
    · rw [EL.out] at O2 ⊢
      have := O2.out.setOther (o := 0) (u := .slice A2 p.length c2') H6.out (by decide)
      exact owns_less this K1.out.size

theorem foldl_push (p : List UInt8) : ∀ s : ByteArray, (p.map fun b => (b.toNat : Int)).foldl (fun r n => r.push (UInt8.ofNat n.toNat)) s = ⟨s.data ++ p.toArray⟩ := by
  induction p with
  | nil => intro s; simp
  | cons b p ih =>
    intro s
    simp only [List.map_cons, List.foldl_cons, ih, Int.toNat_natCast, UInt8.ofNat_toNat]
    congr 1
    show s.data.push b ++ p.toArray = _
    rw [Array.push_eq_append, Array.append_assoc]
    congr 1
    apply Array.ext'
    simp
/-- 'string(b)' of bytes. -/
theorem conv_text {w : World} {B : Nat} {A : Option Addr} {p : List UInt8} (h : BReads w B A p) (c : Nat) :
    (convert 49 9 (.slice A p.length c)).run Tryz.prog w = .ok (.string ⟨p.toArray⟩) w := by
  rw [run_convert_bytes_string w _ _ 5 A _ c Tryz.underlying49 Tryz.underlying5 Tryz.underlying9]
  cases A with
  | none =>
    have : p = [] := by
      rcases Nat.eq_zero_or_pos p.length with h0 | h0
      · exact List.eq_nil_of_length_eq_zero h0
      · obtain ⟨b, off, e, _⟩ := h.2 h0; cases e
    subst this
    rfl
  | some a =>
    have hf := run_firstCells_some (P := Tryz.prog) w 1 p.length a p.length c (bys p) h.1 (h.cells rfl)
    have hl : (loadCells a p.length).run Tryz.prog w = .ok (((p.map fun b => (b.toNat : Int)).map (Value.int .u8)).toArray) w := by
      have e : ((p.map fun b => (b.toNat : Int)).map (Value.int .u8)) = bys p := by simp [bys]
      rw [e]
      simpa [Builtin.firstCells] using hf
    rw [run_bytesToString w a p.length c _ hl, foldl_push]
    rw [show (ByteArray.empty.data ++ p.toArray) = p.toArray from by simp [ByteArray.empty, ByteArray.emptyWithCapacity]; rfl]
/-- The store of a text: '[]byte' to string. -/
theorem text1_any {w : World} {g br bm bb : Nat} {A : Option Addr} {c : Nat} {l : List UInt8} {at_ : Nat} {most : Int} (HR : RdAt w g A c l at_ 0)
    (h1 : Blk w br 229 #[.pointer (some ⟨g, 0, none⟩)]) (h2 : Blk w bm 3 #[.int .i64 most]) (h4 : Blk w bb 9 #[.string ⟨#[]⟩]) (hgn : g < bb) :
    Calls Tryz.prog 198 #[.pointer (some ⟨br, 0, none⟩), .pointer (some ⟨bm, 0, none⟩), .pointer (some ⟨bb, 0, none⟩)] w fun e w2 => Keeps (fun k => k = g ∨ k = bb) w w2 ∧
      (e = .returned (.tuple #[]) ∧ (∃ p k, blockF most (l.drop at_) = .ok (p, k) ∧ Blk w2 bb 9 #[.string ⟨p.toArray⟩] ∧ RdAt w2 g A c l (at_ + k) 0) ∨
        ∃ m, e = gaveUp m ∧ (blockF most (l.drop at_) = .error m ∧ Blk w2 bb 9 #[.string ⟨#[]⟩]) ∧ ∃ at', RdAt w2 g A c l at' 0) := by
  have c1 := h1.cell 0
  have c2 := h2.cell 0
  simp at c1 c2
  have H4 := Lib.hid h4
  have H := Lib.hid HR
  have HG := Lib.hid hgn
  clear HR h1 h2 h4 hgn
  go_enter Tryz.func198, Tryz.ntmps198
  go_wp2_with fail
  refine (block_any H.out most).mono ?_
  rintro e w1 ⟨hg, hr⟩
  have K1 := Lib.hid (Keeps.of_grown hg)
  have H5 := Lib.hid (H4.out.keeps K1.out (fun e => by have := HG.out; injection e with e; omega))
  clear hg
  cases hn : blockF most (l.drop at_) with
  | error m =>
    rw [hn] at hr
    obtain ⟨rfl, at', hr'⟩ := hr
    have R1 := Lib.hid hr'
    have HN := Lib.hid hn
    clear hr' hn
    unfold gaveUp
    go_wp2
    exact ⟨rfl, K1.out.mono (fun i h => .inl (.inl (by injection h))), .inr ⟨m, rfl, ⟨HN.out, H5.out⟩, at', R1.out⟩⟩
  | ok x =>
    obtain ⟨p, k⟩ := x
    rw [hn] at hr
    obtain ⟨A', c', rfl, hp, hr'⟩ := hr
    have R1 := Lib.hid hr'
    have P1 := Lib.hid hp
    have HN := Lib.hid hn
    have c4 := H5.out.cell 0
    have f4 := H5.out.frozen 0
    simp at c4
    have kc := conv_text hp c'
    clear hr' hn hp
    obtain ⟨n, hn⟩ : ∃ n, n = p.length := ⟨_, rfl⟩
    obtain ⟨s, hs⟩ : ∃ s : ByteArray, s = ⟨p.toArray⟩ := ⟨_, rfl⟩
    rw [← hn, ← hs] at kc
    rw [← hn]
    have HS := Lib.hid hs
    clear hn hs
    go_wp2
    go_end0
    refine ⟨(K1.out.mono (fun i h => .inl (.inl (by injection h)))).setCell (.inl (.inr rfl)) _, .inl ⟨rfl, p, k, HN.out, ?_, R1.out.keeps ((Keeps.refl (fun i => i = bb) w1).setCell (.inl rfl) _) (fun i h => by have := HG.out; omega)⟩⟩
    have := H5.out.set_ 0 (.string s)
    rw [← HS.out]
    simpa using this

/-- What a method of a reader leaves: what it answers, the reader behind it, all else as it was. -/
def RdPost {α : Type} (w : World) (g : Nat) (x : α × Rd) (ans : α → Ending → World → Prop) (e : Ending) (w' : World) : Prop :=
  ans x.1 e w' ∧ RdIs w' g x.2 ∧ Keeps (fun k => k = g) w w'
theorem RdPost.out {α : Type} {w : World} {g : Nat} {x : α × Rd} {ans : α → Ending → World → Prop} {e : Ending} {w' : World} (h : RdPost w g x ans e w') : ans x.1 e w' ∧ RdIs w' g x.2 ∧ Keeps (fun k => k = g) w w' := h

def AnsBytes (w : World) (p : List UInt8) (e : Ending) (w' : World) : Prop := ∃ v, e = .returned v ∧ BOwns w' w.heap.size v p
def AnsText (p : List UInt8) (e : Ending) (_ : World) : Prop := e = .returned (.string ⟨p.toArray⟩)
def AnsK (k : IntKind) (n : Nat) (e : Ending) (_ : World) : Prop := e = .returned (.int k n)
def AnsInt (n : Int) (e : Ending) (_ : World) : Prop := e = .returned (.int .i64 n)

theorem callFunc_enter (F : FuncId) (fn : Func) (c : Code) (hf : Tryz.prog.funcs[F]? = some fn) (hb : fn.body = some c) (hn : (fn.name == "runtime.NumGoroutine") = false) (caps : Array Value) (w : World) : (callFunc F caps).run Tryz.prog w = .ok (.enter F caps) w := by
  have hn' : ¬ fn.name = "runtime.NumGoroutine" := by simpa using hn
  simp [callFunc, hf, hb, hn']
theorem RdAt.alloc {w : World} {g : Nat} {A : Option Addr} {c : Nat} {l : List UInt8} {at_ : Nat} {f : Int} (h : RdAt w g A c l at_ f) (o : Obj) : RdAt (w.alloc o) g A c l at_ f :=
  h.keeps ((Keeps.refl (fun _ => False) w).alloc o) (fun _ h => h.elim)
theorem RdAt.below {w w' : World} {g : Nat} {A : Option Addr} {c : Nat} {l : List UInt8} {at_ : Nat} {f : Int} (h : RdAt w g A c l at_ f) (hb : Below w.heap.size w w') : RdAt w' g A c l at_ f :=
  h.keeps (Keeps.of_below hb (fun _ => False)) (fun _ h => h.elim)
theorem Blk.below' {w w' : World} {g : Nat} {t : TypeId} {cs : Array Value} (h : Blk w g t cs) (hb : Below w.heap.size w w') : Blk w' g t cs := h.below hb h.lt
theorem RdAt.drew {w : World} {g : Nat} {A : Option Addr} {c : Nat} {l : List UInt8} {at_ : Nat} {f : Int} (h : RdAt w g A c l at_ f) : RdAt w.drew g A c l at_ f := ⟨h.blk, h.reads, h.cap, h.le, h.small, h.ours⟩
end Go.Proofs.YtmnpchncmbnddaaGreat
/- The reader's Open, Left, Fault, End: contracts; and a reader that is not there. -/
namespace Go.Proofs.YtmnpchncmbnddaaGreat
open Go.RowKit

def Rd.left (r : Rd) : Int := (r.l.length : Int) - r.at_
def Rd.end_ (r : Rd) : Int := if r.f = 0 then (if 0 < r.left then 22 else 0) else r.f

theorem BOwns.keeps {S : Nat → Prop} {w w' : World} {base : Nat} {v : Value} {l : List UInt8} (h : BOwns w base v l) (hk : Keeps S w w') (hs : ∀ i, base ≤ i → ¬ S i) : BOwns w' base v l := by
  refine ⟨h.1, ?_⟩
  rcases h.2 with h2 | ⟨g, cap, cur, hv, hg, hh, r⟩
  · exact .inl h2
  · have hb : Blk w g 5 cur := hh
    exact .inr ⟨g, cap, cur, hv, hg, hb.keeps hk (hs g hg), r⟩
/-- What the call owns, read: below the blocks that w had not yet. -/
theorem BOwns.lies {w w' : World} {base n c : Nat} {A : Option Addr} {l : List UInt8} (h : BOwns w base (.slice A n c) l) (h' : BOwns w' base (.slice A n c) l) : BReads w' w.heap.size A l := by
  refine ⟨by rw [bys_length, Nat.mul_one], fun hp => ?_⟩
  rcases h.2 with ⟨_, h2⟩ | ⟨g, cap, cur, hv, hg, hh, _⟩
  · omega
  · have hlt : g < w.heap.size := by have hb : Blk w g 5 cur := hh; exact hb.lt
    obtain ⟨A', c', e, _, hr⟩ := h'.slice
    injection e with e1 _ _
    injection hv with e2 _ _
    subst e1
    obtain ⟨b, off, e3, _, hc⟩ := hr.2 hp
    rw [e2] at e3
    injection e3 with e3
    injection e3 with e4 e5
    subst e4; subst e5
    exact ⟨g, 0, e2, hlt, hc⟩

theorem BOwns.ours {w : World} {base n c : Nat} {A : Option Addr} {l : List UInt8} (h : BOwns w base (.slice A n c) l) : Ours w A l := fun hp => by
  rcases h.2 with ⟨_, h2⟩ | ⟨g, cap, cur, hv, hg, hh, _⟩
  · omega
  · injection hv with e _ _
    exact ⟨g, 0, cur, _, e, hh⟩

/-- A new reader, in new memory. -/
def Opened (w : World) (l : List UInt8) (e : Ending) (w' : World) : Prop := ∃ g, e = .returned (.pointer (some ⟨g, 0, none⟩)) ∧ w.heap.size ≤ g ∧ (∀ w'', Keeps (fun k => k < w.heap.size) w' w'' → RdIs w'' g ⟨l, 0, 0⟩) ∧ Below w.heap.size w w'
theorem Opened.out {w : World} {l : List UInt8} {e : Ending} {w' : World} (h : Opened w l e w') : ∃ g, e = .returned (.pointer (some ⟨g, 0, none⟩)) ∧ w.heap.size ≤ g ∧ RdIs w' g ⟨l, 0, 0⟩ ∧ Below w.heap.size w w' := by
  obtain ⟨g, e, hg, hr, hb⟩ := h
  exact ⟨g, e, hg, hr _ (Keeps.refl _ _), hb⟩
theorem Opened.all {w : World} {l : List UInt8} {e : Ending} {w' : World} (h : Opened w l e w') : ∃ g, e = .returned (.pointer (some ⟨g, 0, none⟩)) ∧ w.heap.size ≤ g ∧ g < w'.heap.size ∧ Hid (∀ w'', Keeps (fun k => k < w.heap.size) w' w'' → RdIs w'' g ⟨l, 0, 0⟩) ∧ Below w.heap.size w w' := by
  obtain ⟨g, e, hg, hr, hb⟩ := h
  exact ⟨g, e, hg, (hr _ (Keeps.refl _ _)).lt, Lib.hid hr, hb⟩

theorem open_any {w : World} {B c : Nat} {A : Option Addr} {l : List UInt8} (hr : BReads w B A l) (hl : l.length ≤ 140737488355328) :
    Calls Tryz.prog 147 #[.slice A l.length c] w (Opened w l) := by
  go_enter Tryz.func147, Tryz.ntmps147
  go_wp2_with fail
  refine (own_any hr hl).mono ?_
  rintro e w1 h
  obtain ⟨L, A1, c1, rfl, E1, O1, R1, B1⟩ := h.named
  have hc : L.length ≤ c1 := by obtain ⟨A', c', e, hc, _⟩ := O1.out.slice; injection e with _ _ e; omega
  have HC := Lib.hid hc
  clear h hc
  go_wp2
  go_ret
  refine ⟨w1.heap.size, rfl, B1.out.size, fun w'' hk => ⟨A1, c1, ?_⟩, B1.out.alloc B1.out.size _⟩
  rw [← E1.out]
  have O2 : BOwns w'' w.heap.size (.slice A1 L.length c1) L := (O1.out.below ((Below.refl _ _).alloc (Nat.le_refl _) _)).keeps hk (fun i hi h => by omega)
  exact ⟨(Blk.new _ _ _).keeps hk (fun h => by have := B1.out.size; omega), O1.out.lies O2, HC.out, Nat.zero_le _, by rw [E1.out]; exact hl, O2.ours⟩

theorem fault_any {w : World} {g : Nat} {r : Rd} (h : RdIs w g r) : Calls Tryz.prog 203 #[.pointer (some ⟨g, 0, none⟩)] w fun e w' => e = .returned (.int .i64 r.f) ∧ w = w' := by
  obtain ⟨A, c, HR⟩ := h
  have c2 := HR.blk.cell 2
  simp at c2
  clear HR
  go_enter Tryz.func203, Tryz.ntmps203
  go_wp2
  go_ret
  exact ⟨rfl, rfl⟩
theorem left_any {w : World} {g : Nat} {r : Rd} (h : RdIs w g r) : Calls Tryz.prog 204 #[.pointer (some ⟨g, 0, none⟩)] w fun e w' => e = .returned (.int .i64 r.left) ∧ ∃ m, w' = w.drewN m := by
  obtain ⟨A, c, HR⟩ := h
  have c0 := HR.blk.cell 0
  have c1 := HR.blk.cell 1
  have hs := HR.small
  have hl := HR.le
  simp at c0 c1
  clear HR
  go_enter Tryz.func204, Tryz.ntmps204
  go_wp2
  go_quiet (fail)
  go_wp2
  go_ret
  exact ⟨rfl, _, rfl⟩
theorem end_any {w : World} {g : Nat} {r : Rd} (h : RdIs w g r) : Calls Tryz.prog 153 #[.pointer (some ⟨g, 0, none⟩)] w fun e w' => e = .returned (.int .i64 r.end_) ∧ ∃ m, w' = w.drewN m := by
  have H := Lib.hid h
  clear h
  by_cases hf : r.f = 0
  · have hb : ((r.f : Int) != 0) = false := by simpa using hf
    have HF := Lib.hid hf
    clear hf
    by_cases hl : 0 < r.left
    · have HE := Lib.hid (show r.end_ = 22 from by unfold Rd.end_; rw [if_pos HF.out, if_pos hl])
      go_enter Tryz.func153, Tryz.ntmps153
      go_wp2_with fail
      refine (fault_any H.out).mono ?_
      rintro e w' ⟨rfl, rfl⟩
      go_wp2_with fail
      refine (left_any H.out).mono ?_
      rintro e w' ⟨rfl, m, rfl⟩
      go_wp2
      go_ret
      exact ⟨by rw [HE.out]; rfl, _, rfl⟩
    · have HE := Lib.hid (show r.end_ = 0 from by unfold Rd.end_; rw [if_pos HF.out, if_neg hl])
      go_enter Tryz.func153, Tryz.ntmps153
      go_wp2_with fail
      refine (fault_any H.out).mono ?_
      rintro e w' ⟨rfl, rfl⟩
      go_wp2_with fail
      refine (left_any H.out).mono ?_
      rintro e w' ⟨rfl, m, rfl⟩
      go_wp2
      go_ret
      exact ⟨by rw [HE.out]; rfl, _, rfl⟩
  · have hb : ((r.f : Int) != 0) = true := by simpa using hf
    have HE := Lib.hid (show r.end_ = r.f from by unfold Rd.end_; rw [if_neg hf])
    clear hf
    go_enter Tryz.func153, Tryz.ntmps153
    go_wp2_with fail
    refine (fault_any H.out).mono ?_
    rintro e w' ⟨rfl, rfl⟩
    go_wp2
    go_ret
    exact ⟨by rw [HE.out]; rfl, 0, rfl⟩
end Go.Proofs.YtmnpchncmbnddaaGreat
/- Bytes that the call owns, written one by one. -/
namespace Go.Proofs.YtmnpchncmbnddaaGreat
open Go.RowKit

/-- The block of bytes that the call owns. -/
theorem BOwns.block {w : World} {base n c : Nat} {A : Option Addr} {l : List UInt8} (h : BOwns w base (.slice A n c) l) (hp : 0 < l.length) :
    ∃ g, A = some ⟨g, 0, none⟩ ∧ base ≤ g ∧ g < w.heap.size ∧ (∀ i, w.frozen? ⟨g, i, none⟩ = false) ∧ ∀ i, (hi : i < l.length) → w.cell? ⟨g, i, none⟩ = some (.int .u8 (l[i].toNat : Int)) := by
  rcases h.2 with ⟨_, h2⟩ | ⟨g, cap, cur, hv, hg, hh, r⟩
  · omega
  · injection hv with e1 _ _
    subst e1
    have hb : Blk w g 5 cur := hh
    obtain ⟨A', c', e, _, hr⟩ := BOwns.slice h
    injection e with e2 _ _
    subst e2
    refine ⟨g, rfl, hg, hb.lt, fun i => hb.frozen i, fun i hi => ?_⟩
    obtain ⟨b, off, e3, _, hc⟩ := BReads.at_ hr hi
    injection e3 with e3
    injection e3 with e4 e5
    subst e4; subst e5
    rw [Nat.zero_add] at hc
    exact hc
theorem BOwns.store {w : World} {base g n c i : Nat} {l : List UInt8} (h : BOwns w base (.slice (some ⟨g, 0, none⟩) n c) l) (hi : i < l.length) (x : UInt8) :
    BOwns (w.setCell ⟨g, i, none⟩ (.int .u8 (x.toNat : Int))) base (.slice (some ⟨g, 0, none⟩) n c) (l.set i x) := by
  refine ⟨by rw [bys_length, Nat.mul_one], ?_⟩
  rcases h.2 with ⟨h1, h2⟩ | ⟨g', cap, cur, hv, hg, hh, hn, hcm, hs, ht⟩
  · omega
  · injection hv with e1 e2 e3
    injection e1 with e1
    injection e1 with e1 _ _
    subst e1; subst e3
    rw [List.length_set]
    refine .inr ⟨g, c, cur.setIfInBounds i (.int .u8 (x.toNat : Int)), by rw [e2], hg, ?_, hn, hcm, by simpa using hs, ?_⟩
    · have hb : Blk w g 5 cur := hh
      exact hb.set_ i _
    · rw [Nat.mul_one] at ht ⊢
      rw [Array.toList_setIfInBounds, List.take_set, ht]
      simp [bys, List.map_set]
end Go.Proofs.YtmnpchncmbnddaaGreat
/- slices.Equal of bytes, by its contract. -/
namespace Go.Proofs.YtmnpchncmbnddaaGreat
open Go.RowKit

/-- The call answers the bool b and turns no memory. -/
def SaysB (w : World) (b : Bool) (e : Ending) (w' : World) : Prop := e = .returned (.bool b) ∧ ∃ m, w' = w.drewN m
theorem SaysB.out {w w' : World} {b : Bool} {e : Ending} (h : SaysB w b e w') : e = .returned (.bool b) ∧ ∃ m, w' = w.drewN m := h

end Go.Proofs.YtmnpchncmbnddaaGreat
/- Rows of bytes with spare room, filled and grown: words for laws on new memory. -/
namespace Go.Proofs.YtmnpchncmbnddaaGreat
open Go.RowKit

theorem BOwns.keepsB {S : Nat → Prop} {w w' : World} {base : Nat} {v : Value} {l : List UInt8} (h : BOwns w base v l) (hk : Keeps S w w') (hs : ∀ k, v.ownBlock = some k → ¬ S k) : BOwns w' base v l := by
  refine ⟨h.1, ?_⟩
  rcases h.2 with h2 | ⟨g, cap, cur, hv, hg, hh, r⟩
  · exact .inl h2
  · have hb : Blk w g 5 cur := hh
    exact .inr ⟨g, cap, cur, hv, hg, hb.keeps hk (hs g (by rw [hv]; rfl)), r⟩
theorem BOwns.lt {w : World} {base : Nat} {v : Value} {l : List UInt8} (h : BOwns w base v l) {k : Nat} (hk : v.ownBlock = some k) : base ≤ k ∧ k < w.heap.size := by
  rcases h.2 with ⟨h2, _⟩ | ⟨g, cap, cur, hv, hg, hh, r⟩
  · rw [h2] at hk; cases hk
  · have hb : Blk w g 5 cur := hh
    rw [hv] at hk
    injection hk with hk
    subst hk
    exact ⟨hg, hb.lt⟩
theorem BOwns.reads {w : World} {base n c : Nat} {A : Option Addr} {l : List UInt8} (h : BOwns w base (.slice A n c) l) : BReads w w.heap.size A l := by
  obtain ⟨A', c', e, _, hr⟩ := BOwns.slice h
  injection e with e1
  subst e1
  exact hr
/-- A row of the call's own that grows by one byte. -/
structure Grows (w0 w : World) (base : Nat) (row : Option Nat) (v : Value) (l : List UInt8) : Prop where
  own : BOwns w base v l
  grown : w0.grownBy w row
  from_ : OwnFrom w0 row v
  le : base ≤ w0.heap.size
theorem Grows.start {w : World} {base : Nat} {v : Value} {l : List UInt8} (h : BOwns w base v l) (hb : base ≤ w.heap.size) : Grows w w base v.ownBlock v l := ⟨h, World.grownBy.refl _ _, .inl rfl, hb⟩
theorem Grows.step {w0 w w1 : World} {base : Nat} {row : Option Nat} {v v' : Value} {l : List UInt8} {o : Obj} {m : List UInt8} (h : Grows w0 w base row v l) (ho : BOwns w1 base v' (l ++ m)) (hg : (w.alloc o).grownBy w1 v.ownBlock) (hf : v'.ownBlock = v.ownBlock ∨ v'.ownBlock = some (w.alloc o).heap.size) : Grows w0 w1 base row v' (l ++ m) :=
  ⟨ho, grown_step (grown_alloc h.grown _) h.from_ hg, OwnFrom.step h.from_ (by have := h.grown.size; simp; omega) hf, h.le⟩
theorem Grows.keeps {w0 w : World} {base : Nat} {row : Option Nat} {v : Value} {l : List UInt8} (h : Grows w0 w base row v l) : Keeps (fun k => some k = row) w0 w := Keeps.of_grown h.grown
theorem Grows.far {w0 w : World} {base : Nat} {row : Option Nat} {v : Value} {l : List UInt8} (h : Grows w0 w base row v l) {k : Nat} (hk : k < w0.heap.size) (hr : row ≠ some k) : v.ownBlock ≠ some k := fun e => by
  rcases h.from_ with h1 | h1
  · exact hr (h1.symm.trans e)
  · have := h1 k e; omega
/-- Rows of the call's own, each in a block of its own. -/
structure Rws (w0 w : World) (rs : List (Value × List UInt8)) : Prop where
  own : ∀ r ∈ rs, BOwns w w0.heap.size r.1 r.2
  sep : rs.Pairwise fun a b => ∀ k, a.1.ownBlock = some k → b.1.ownBlock ≠ some k
  bel : Below w0.heap.size w0 w
section
variable {w0 w w' : World} {rs : List (Value × List UInt8)} {v v' u : Value} {l l' m : List UInt8}
theorem Rws.nil (h : Below w0.heap.size w0 w) : Rws w0 w [] := ⟨fun _ h => (by cases h), List.Pairwise.nil, h⟩
theorem Rws.go (h : Rws w0 w rs) (hb : Below w.heap.size w w') : Rws w0 w' rs := ⟨fun r hr => (h.own r hr).below hb, h.sep, h.bel.trans (hb.mono h.bel.size)⟩
theorem Rws.new (h : Rws w0 w rs) (ho : BOwns w' w.heap.size v l) (hb : Below w.heap.size w w') : Rws w0 w' ((v, l) :: rs) := by
  refine ⟨fun r hr => ?_, List.pairwise_cons.2 ⟨fun r hr k e1 e2 => ?_, h.sep⟩, h.bel.trans (hb.mono h.bel.size)⟩
  · rcases List.mem_cons.1 hr with rfl | hr
    · exact owns_less ho h.bel.size
    · exact (h.own r hr).below hb
  · have := (ho.lt e1).1; have := ((h.own r hr).lt e2).2; omega
theorem Rws.swap (h : Rws w0 w ((v, l) :: (u, m) :: rs)) : Rws w0 w ((u, m) :: (v, l) :: rs) := by
  have h1 := List.pairwise_cons.1 h.sep
  have h2 := List.pairwise_cons.1 h1.2
  refine ⟨fun r hr => h.own r (by simp only [List.mem_cons] at hr ⊢; rcases hr with h | h | h <;> simp [h]), List.pairwise_cons.2 ⟨fun r hr k e1 e2 => ?_, List.pairwise_cons.2 ⟨fun r hr => h1.1 r (List.mem_cons_of_mem _ hr), h2.2⟩⟩, h.bel⟩
  rcases List.mem_cons.1 hr with rfl | hr
  · exact h1.1 _ (List.mem_cons_self ..) k e2 e1
  · exact h2.1 r hr k e1 e2
theorem Rws.tail (h : Rws w0 w ((v, l) :: rs)) : Rws w0 w rs := ⟨fun r hr => h.own r (List.mem_cons_of_mem _ hr), (List.pairwise_cons.1 h.sep).2, h.bel⟩
theorem Rws.turn (h : Rws w0 w ((v, l) :: rs)) (ho : BOwns w' w0.heap.size v' l') (hk : Keeps (fun k => some k = v.ownBlock) w w') (hne : ∀ k, v'.ownBlock = some k → ∀ r ∈ rs, r.1.ownBlock ≠ some k) : Rws w0 w' ((v', l') :: rs) := by
  have h1 := List.pairwise_cons.1 h.sep
  refine ⟨fun r hr => ?_, List.pairwise_cons.2 ⟨fun r hr k e => hne k e r hr, h1.2⟩, h.bel.trans (hk.below h.bel.size (fun i hi => ((h.own _ (List.mem_cons_self ..)).lt hi.symm).1))⟩
  rcases List.mem_cons.1 hr with rfl | hr
  · exact ho
  · exact (h.own r (List.mem_cons_of_mem _ hr)).keepsB hk (fun k e e' => h1.1 r hr k e'.symm e)
theorem Rws.head (h : Rws w0 w ((v, l) :: rs)) : BOwns w w0.heap.size v l := h.own _ (List.mem_cons_self ..)
theorem Rws.grow (h : Rws w0 w ((v, l) :: rs)) (hg : Grows w w' w0.heap.size v.ownBlock v' l') : Rws w0 w' ((v', l') :: rs) :=
  h.turn hg.own hg.keeps fun k e r hr e2 => hg.far ((h.own r (List.mem_cons_of_mem _ hr)).lt e2).2 (fun e3 => (List.pairwise_cons.1 h.sep).1 r hr k e3 e2) e
/-- A block of another type stays while a row is written. -/
theorem Rws.blk {g : Nat} {t : TypeId} {cs : Array Value} (h : BOwns w w0.heap.size v l) (hb : Blk w g t cs) (ht : 5 ≠ t) (hk : Keeps (fun k => some k = v.ownBlock) w w') : Blk w' g t cs := by
  refine hb.keeps hk fun e => ?_
  rcases h.2 with ⟨h2, _⟩ | ⟨g', cap, cur, hv, hg, hh, r⟩
  · rw [h2] at e; cases e
  · rw [hv] at e
    have e' : g = g' := Option.some.inj e
    subst e'
    unfold Blk at hb
    rw [hb] at hh
    injection hh with hh
    injection hh with _ hh
    exact ht hh.symm
end

end Go.Proofs.YtmnpchncmbnddaaGreat
