/- number and row of the reference, by contract. -/
import Derived.Test.YtnnladfndmdapaaPlainE
import Derived.Test.YtnnladfndmdapaaEnt6
namespace Go.Proofs.Ytnnladfndmdapaa
open Go.RowKit

/-- The number that stands at a place, and the place behind it; -1: none does. -/
def numR (most : Int) (b : List UInt8) (a : Nat) : Int × Int := match numberF 0 most (b.drop a) with | .ok (n, k) => (n, ((a + k : Nat) : Int)) | .error _ => (0, -1)
theorem numR_ok {most n : Int} {b : List UInt8} {a k : Nat} (h : numberF 0 most (b.drop a) = .ok (n, k)) : numR most b a = (n, ((a + k : Nat) : Int)) := by unfold numR; rw [h]
theorem numR_err {most e : Int} {b : List UInt8} {a : Nat} (h : numberF 0 most (b.drop a) = .error e) : numR most b a = (0, -1) := by unfold numR; rw [h]
theorem numF_bad {most N u : Int} {I : Nat} {x : Except Int (Int × Nat)} (h : x = if u < 0 ∨ most < u then .error 21 else .ok (u, I)) (e : u = N) (hb : N < 0 ∨ most < N) : x = .error 21 := by subst e; rw [h, if_pos hb]
theorem numF_good {most N u : Int} {I : Nat} {x : Except Int (Int × Nat)} (h : x = if u < 0 ∨ most < u then .error 21 else .ok (u, I)) (e : u = N) (hb : ¬ (N < 0 ∨ most < N)) : x = .ok (N, I) := by subst e; rw [h, if_neg hb]
theorem half_wrap {V : Nat} (h : V < 18446744073709551616) : IntKind.u64.wrap ((V : Int) / 2) = (V : Int) / 2 := by rw [wrap_u64]; omega
theorem neg_one (q : Nat) : -(q : Int) - 1 < 0 := by omega
theorem not_bad {q : Nat} {most : Int} (h : ¬ most < (q : Int)) : ¬ ((q : Int) < 0 ∨ most < (q : Int)) := by omega
theorem cast_succ' {a I P : Nat} (h : P = a + I) : ((a + (I + 1) : Nat) : Int) = (P : Int) + 1 := by omega
def AnsN (x : Int × Int) (w : World) (e : Ending) (w' : World) : Prop := e = .returned (.tuple #[.int .i64 x.1, .int .i64 x.2]) ∧ w' = w
set_option maxRecDepth 100000 in
set_option maxHeartbeats 1600000 in
theorem rnumber_any {w : World} {B c : Nat} {A : Option Addr} {b : List UInt8} (hr : BReads w B A b) (hl : b.length ≤ 140737488355328) (a : Nat) (ha : a ≤ b.length) (most : Int) (hm0 : 0 ≤ most) (hm1 : most ≤ 4611686018427387904) :
    Calls Try.prog 73 #[.slice A b.length c, .int .i64 a, .int .i64 most] w (AnsN (numR most b a) w) := by
  have HR := Lib.hid hr
  clear hr
  go_enter Try.func73, Try.ntmps73
  go_wp2
  go_loop [8, 9] (fun u i => ∃ (U I : Nat), u = .int .u64 U ∧ i = .int .i64 I ∧ I ≤ 9 ∧ a + I ≤ b.length ∧ Hid (U < 128 ^ I) ∧ Hid (scan 0 0 (b.drop a) = scan I U (b.drop (a + I)))) (fun _ i => 10 - (intOf i).toNat)
  case atStart => exact ⟨0, 0, rfl, rfl, by omega, by omega, Lib.hid (by decide), Lib.hid rfl⟩
  case round =>
    obtain ⟨U, I, rfl, rfl, hI, haI, hU, hS⟩ := hrel
    have hI9 : (I : Int) < 10 := by omega
    obtain ⟨P, hP⟩ : ∃ P, P = a + I := ⟨_, rfl⟩
    have hPI : (a : Int) + (I : Int) = (P : Int) := by omega
    by_cases hlt : P < b.length
    · obtain ⟨bb, off, hA, _, hc⟩ := HR.out.at_ hlt
      have HS := Lib.hid (show scan I U (b.drop (a + I)) = if I = 9 ∧ 1 < (b[P]).toNat then .error 21 else if 128 ≤ (b[P]).toNat then scan (I + 1) (U + (b[P]).toNat % 128 * 128 ^ I) (b.drop (P + 1)) else if (b[P]).toNat = 0 ∧ 0 < I then .error 21 else .ok (U + (b[P]).toNat % 128 * 128 ^ I, I + 1) from by
        rw [← hP, List.drop_eq_getElem_cons hlt, scan])
      obtain ⟨x, hx⟩ : ∃ x : UInt8, x = b[P] := ⟨_, rfl⟩
      rw [← hx] at hc HS
      clear hx
      subst hA
      have hx8 := x.toNat_lt
      by_cases h00 : I = 0 ∧ x.toNat = 0
      · obtain ⟨rfl, hx0⟩ := h00
        obtain rfl : U = 0 := by have := hU.out; rw [Nat.pow_zero] at this; omega
        obtain rfl : x = 0 := UInt8.toNat_inj.1 hx0
        obtain rfl : P = a := by omega
        have HE := Lib.hid (numR_ok (show numberF 0 most (b.drop P) = .ok (0, 0 + 1) from by
          unfold numberF
          rw [if_neg (by omega), hS.out, HS.out, if_neg (by simp), if_neg (by decide), if_neg (by simp)]
          show (if unfoldI 0 < 0 ∨ most < unfoldI 0 then Except.error 21 else Except.ok (unfoldI 0, 0 + 1)) = Except.ok ((0 : Int), 0 + 1)
          rw [show unfoldI 0 = 0 from rfl, if_neg (by omega)]))
        have hltI : (P : Int) < (b.length : Int) := by omega
        rw [show ((0 : UInt8).toNat : Int) = 0 from rfl] at hc
        clear hx0 hx8 hP hPI hI9 hlt HS
        go_wp2
        go_ret2
        exact ⟨by rw [HE.out]; rfl, rfl⟩
      have H00 := Lib.hid h00
      clear h00
      have hltI : (P : Int) < (b.length : Int) := by omega
      have hP0 : P ≤ b.length := by omega
      have HP := Lib.hid hP
      clear hP
      by_cases hbad : I = 9 ∧ 1 < x.toNat
      · obtain ⟨h9, hb1⟩ := hbad
        have hb1' : (1 : Int) < (x.toNat : Int) := by omega
        have HE := Lib.hid (numR_err (show numberF 0 most (b.drop a) = .error 21 from by unfold numberF; rw [if_neg (by omega), hS.out, HS.out, if_pos ⟨h9, hb1⟩]))
        have h9b : ((I : Int) == 9) = true := by simp; omega
        clear h9 hb1
        go_wp2
        go_ret2
        exact ⟨by rw [HE.out]; rfl, rfl⟩
      · obtain ⟨y, hy⟩ : ∃ y, y = x.toNat % 128 := ⟨_, rfl⟩
        obtain ⟨Y, hY⟩ : ∃ Y, Y = y * 128 ^ I := ⟨_, rfl⟩
        obtain ⟨V, hV⟩ : ∃ V, V = U + Y := ⟨_, rfl⟩
        have hUy : Y ≤ (if I = 9 then 1 else 127) * 128 ^ I := by rw [hY]; exact Nat.mul_le_mul_right _ (by split <;> omega)
        have hV64 : V < 18446744073709551616 := by
          have := hU.out
          by_cases h9 : I = 9
          · subst h9; rw [if_pos rfl] at hUy; omega
          · rw [if_neg h9] at hUy
            have h128 : 128 ^ I ≤ 128 ^ 8 := Nat.pow_le_pow_right (by omega) (by omega)
            omega
        have Ex : (x.toNat : Int) % 128 = (y : Int) := by omega
        have Eb : IntKind.u64.wrap ((y : Int) * 2 ^ (7 * I)) = (Y : Int) := by
          have := shl_pow y I (j := I) rfl (by omega)
          rw [show (7 * (I : Int)).toNat = 7 * I from by omega] at this
          rw [this, hY]
        have Ec : (U : Int) + (Y : Int) = (V : Int) := by omega
        have Ed : IntKind.u64.wrap (V : Int) = (V : Int) := by rw [wrap_u64]; omega
        have HV64 := Lib.hid hV64
        have HV : Hid (128 ≤ x.toNat → V < 128 ^ (I + 1)) := Lib.hid (fun h => by
          have h9 : ¬ I = 9 := by omega
          rw [if_neg h9] at hUy
          have := hU.out
          rw [Nat.pow_succ]; omega)
        have hSV := HS.out
        rw [← hy, ← hY, ← hV] at hSV
        replace HS := Lib.hid hSV
        have HNB := Lib.hid hbad
        clear hy hY hV hUy hV64 hbad hSV
        by_cases hm : 128 ≤ x.toNat
        · have hm' : (128 : Int) ≤ (x.toNat : Int) := by omega
          have h9 : ¬ (I : Int) = 9 := by have := HNB.out; omega
          have h9b : ((I : Int) == 9) = false := by simpa using h9
          have HSM := Lib.hid (show scan 0 0 (b.drop a) = scan (I + 1) V (b.drop (a + (I + 1))) from by rw [hS.out, HS.out, if_neg HNB.out, if_pos hm, HP.out]; rfl)
          have HM := Lib.hid hm
          have hle9 : I + 1 ≤ 9 := by omega
          have haI2 : a + (I + 1) ≤ b.length := by have := HP.out; omega
          clear hm h9
          go_wp2
          exact ⟨⟨V, I + 1, rfl, by go_num, hle9, haI2, Lib.hid (HV.out HM.out), HSM⟩, by simp [intOf]; omega⟩
        · have hm' : ¬ (128 : Int) ≤ (x.toNat : Int) := by omega
          have HM := Lib.hid hm
          clear hm
          obtain ⟨z, hz⟩ : ∃ z : Nat, z = V % 2 := ⟨_, rfl⟩
          obtain ⟨q, hq⟩ : ∃ q : Nat, q = V / 2 := ⟨_, rfl⟩
          have Ez : (V : Int) % 2 = (z : Int) := by omega
          have Eq : (V : Int) / 2 = (q : Int) := by omega
          have hq63 : (q : Int) ≤ 9223372036854775807 := by have := HV64.out; omega
          have Em : IntKind.u64.wrap most = most := by rw [wrap_u64]; omega
          have Es : wrap64 (q : Int) = (q : Int) := by unfold wrap64; omega
          have HQ63 := Lib.hid hq63
          clear hq63
          have hunf : unfoldI V = if z = 0 then (q : Int) else -(q : Int) - 1 := by unfold unfoldI; rw [← hz, ← hq]
          have HUNF := Lib.hid hunf
          have hz2 : z = 0 ∨ z = 1 := by omega
          clear hz hq hunf
          have h9e : ((I : Int) == 9) = true ∧ ¬ (1 : Int) < (x.toNat : Int) ∨ ((I : Int) == 9) = false := by
            by_cases h9 : I = 9
            · exact .inl ⟨by simp; omega, by have := HNB.out; omega⟩
            · exact .inr (by simp; omega)
          by_cases hzz : x.toNat = 0 ∧ 0 < I
          · have HE := Lib.hid (numR_err (show numberF 0 most (b.drop a) = .error 21 from by unfold numberF; rw [if_neg (by omega), hS.out, HS.out, if_neg HNB.out, if_neg HM.out, if_pos hzz]))
            have hb0 : ((x.toNat : Int) == 0) = true := by simp; omega
            have hI0 : (0 : Int) < (I : Int) := by omega
            clear hzz hz2 Es Ez Eq
            rcases h9e with ⟨h9b, hb1⟩ | h9b
            all_goals
              go_wp2
              go_ret2
              exact ⟨by rw [HE.out]; rfl, rfl⟩
          · have hx0 : ((x.toNat : Int) == 0) = false := by
              have : ¬ x.toNat = 0 := fun h0 => H00.out ⟨Nat.eq_zero_of_not_pos fun hp => hzz ⟨h0, hp⟩, h0⟩
              simp; omega
            have HNF := Lib.hid (show numberF 0 most (b.drop a) = if unfoldI V < 0 ∨ most < unfoldI V then .error 21 else .ok (unfoldI V, I + 1) from by unfold numberF; rw [if_neg (by omega), hS.out, HS.out, if_neg HNB.out, if_neg HM.out, if_neg hzz])
            have HAI := Lib.hid haI
            have HA := Lib.hid ha
            have HM0 := Lib.hid hm0
            have HEz := Lib.hid Ez
            have HEq := Lib.hid Eq
            have Ew2 : IntKind.u64.wrap ((V : Int) / 2) = (q : Int) := by rw [half_wrap HV64.out]; exact Eq
            clear hzz haI ha hP0 hlt hm1 Ez Eq
            rcases hz2 with hz0 | hz1
            · have hzb : ((V : Int) % 2 == 1) = false := by rw [HEz.out, hz0]; rfl
              have HU := Lib.hid (show unfoldI V = (q : Int) from by rw [HUNF.out, if_pos hz0])
              by_cases hq2 : most < (q : Int)
              · have HE := Lib.hid (numR_err (numF_bad HNF.out HU.out (.inr hq2)))
                clear hz0
                rcases h9e with ⟨h9b, hb1⟩ | h9b
                all_goals
                  go_wp2
                  go_ret2
                  exact ⟨by rw [HE.out]; rfl, rfl⟩
              · have hqn := not_bad hq2
                have HE := Lib.hid (numR_ok (numF_good HNF.out HU.out hqn))
                clear hqn
                have HPN := Lib.hid (cast_succ' HP.out)
                have hq3 : (q : Int) ≤ most := Int.not_lt.1 hq2
                clear hz0 hq2
                rcases h9e with ⟨h9b, hb1⟩ | h9b
                all_goals
                  go_wp2
                  go_ret2
                  exact ⟨by rw [HE.out, HPN.out]; rfl, rfl⟩
            · have hzb : ((V : Int) % 2 == 1) = true := by rw [HEz.out, hz1]; rfl
              have hz0n : ¬ z = 0 := by rw [hz1]; decide
              have hneg := neg_one q
              have HU := Lib.hid (show unfoldI V = -(q : Int) - 1 from by rw [HUNF.out, if_neg hz0n])
              have HE := Lib.hid (numR_err (numF_bad HNF.out HU.out (.inl hneg)))
              clear hz1 hz0n hneg
              rcases h9e with ⟨h9b, hb1⟩ | h9b
              all_goals
                go_wp2
                go_ret2
                exact ⟨by rw [HE.out]; rfl, rfl⟩
    · have HE := Lib.hid (numR_err (show numberF 0 most (b.drop a) = .error 20 from by
        unfold numberF; rw [if_neg (by omega), hS.out, List.drop_of_length_le (by omega), show scan I U [] = .error 20 from by rw [scan]]))
      have hge : (b.length : Int) ≤ (P : Int) := Int.ofNat_le.2 (Nat.le_of_not_lt hlt)
      clear hP hlt
      go_wp2
      go_ret2
      exact ⟨by rw [HE.out]; rfl, rfl⟩
end Go.Proofs.Ytnnladfndmdapaa
