/- The reader's inner functions: number, block. -/
import Derived.Test.YtnnladfndmdapaaRdr1
import Derived.Test.YtnnladfndmdapaaPlainR
namespace Go.Proofs.Ytnnladfndmdapaa
open Go.RowKit

/-- What number answers, r being the plain answer: the number, the place behind it; or it gives up. -/
def GivesN (w : World) (g : Nat) (A : Option Addr) (c : Nat) (l : List UInt8) (at_ : Nat) (f : Int) (r : Except Int (Int × Nat)) (e : Ending) (w' : World) : Prop :=
  w.grownBy w' (some g) ∧ match r with
  | .ok (n, k) => e = .returned (.int .i64 n) ∧ RdAt w' g A c l (at_ + k) f
  | .error m => e = gaveUp m ∧ ∃ at', RdAt w' g A c l at' f

theorem number_arg {w : World} {g : Nat} {A : Option Addr} {c : Nat} {l : List UInt8} {at_ : Nat} {f : Int} (HR : RdAt w g A c l at_ f) (low high : Int) (hn : high < low) :
    Calls Try.prog 99 #[.pointer (some ⟨g, 0, none⟩), .int .i64 low, .int .i64 high] w (GivesN w g A c l at_ f (numberF low high (l.drop at_))) := by
  have HN := Lib.hid (show numberF low high (l.drop at_) = .error 2 from by unfold numberF; rw [if_pos hn])
  have H := Lib.hid HR
  clear HR
  go_enter Try.func99, Try.ntmps99
  go_wp2
  refine ⟨rfl, World.grownBy.refl _ _, ?_⟩
  rw [HN.out]
  exact ⟨rfl, _, H.out⟩
set_option maxRecDepth 100000 in
set_option maxHeartbeats 400000 in
theorem number_any {w : World} {g : Nat} {A : Option Addr} {c : Nat} {l : List UInt8} {at_ : Nat} {f : Int} (HR : RdAt w g A c l at_ f) (low high : Int) :
    Calls Try.prog 99 #[.pointer (some ⟨g, 0, none⟩), .int .i64 low, .int .i64 high] w (GivesN w g A c l at_ f (numberF low high (l.drop at_))) := by
  by_cases hn : high < low
  · exact number_arg HR low high hn
  have H := Lib.hid HR
  clear HR
  go_enter Try.func99, Try.ntmps99
  go_wp2
  go_loopw [7, 8] (fun u i wr => ∃ (U I : Nat), u = .int .u64 U ∧ i = .int .i64 I ∧ I ≤ 9 ∧ Hid (U < 128 ^ I) ∧ Hid (scan 0 0 (l.drop at_) = scan I U (l.drop (at_ + I))) ∧ Hid (RdAt wr g A c l (at_ + I) f) ∧ Hid (w.grownBy wr (some g))) (fun _ i _ => 9 - (intOf i).toNat)
  case atStart => exact ⟨0, 0, rfl, rfl, by omega, Lib.hid (by decide), Lib.hid rfl, H, Lib.hid (World.grownBy.refl _ _)⟩
  case round =>
    obtain ⟨U, I, rfl, rfl, hI, hU, hS, hR, hG⟩ := hrel
    by_cases hlt : at_ + I < l.length
    · go_wp2_with fail
      refine (take_ok hR.out 1 (by omega)).mono ?_
      rintro e w1 ⟨A1, rfl, R1, G1, S1⟩
      have e1 : (l.drop (at_ + I)).take 1 = [l[at_ + I]] := by rw [List.drop_eq_getElem_cons hlt]; rfl
      rw [e1] at S1
      obtain ⟨b1, o1, rfl, hb1, hc1⟩ := S1.out.at_ (k := 0) (by simp)
      obtain ⟨b, hb⟩ : ∃ b, b = l[at_ + I] := ⟨_, rfl⟩
      simp only [List.getElem_cons_zero, Nat.add_zero, ← hb] at hc1
      have HB := Lib.hid hb
      have hbl : (b.toNat : Int) < 256 := by have := b.toNat_lt; omega
      clear hb e1 S1 hb1
      obtain ⟨x, hx⟩ : ∃ x : Nat, x = b.toNat % 128 := ⟨_, rfl⟩
      obtain ⟨y, hy⟩ : ∃ y : Nat, y = x * 128 ^ I := ⟨_, rfl⟩
      obtain ⟨V, hV⟩ : ∃ V : Nat, V = U + y := ⟨_, rfl⟩
      have hx1 : (x : Int) < 128 := by omega
      have Ea : bits .andNot .u8 (b.toNat : Int) 128 = (x : Int) := by rw [andNot128, hx]
      have hs1 : scan I U (l.drop (at_ + I)) = if I = 9 ∧ 1 < b.toNat then .error 21 else if 128 ≤ b.toNat then scan (I + 1) V (l.drop (at_ + I + 1)) else if b.toNat = 0 ∧ 0 < I then .error 21 else .ok (V, I + 1) := by
        rw [List.drop_eq_getElem_cons hlt, scan, ← HB.out, hV, hy, hx]
      have HS := Lib.hid hs1
      clear hs1
      by_cases hbad : I = 9 ∧ 1 < b.toNat
      · obtain ⟨h9, hb1⟩ := hbad
        have hb1' : (1 : Int) < (b.toNat : Int) := by omega
        have HE := Lib.hid (show numberF low high (l.drop at_) = .error 21 from by unfold numberF; rw [if_neg (by omega), hS.out, HS.out, if_pos ⟨h9, hb1⟩])
        have h9b : ((I : Int) == 9) = true := by simp; omega
        clear hx hy hV h9 hb1
        go_wp2
        exact ⟨rfl, grown_trans hG.out G1.out, by rw [HE.out]; exact ⟨rfl, _, R1.out⟩⟩
      · have hUy : y ≤ (if I = 9 then 1 else 127) * 128 ^ I := by rw [hy]; exact Nat.mul_le_mul_right _ (by split <;> omega)
        have hV64 : V < 18446744073709551616 := by
          have := hU.out
          by_cases h9 : I = 9
          · subst h9; rw [if_pos rfl] at hUy; omega
          · rw [if_neg h9] at hUy
            have h128 : 128 ^ I ≤ 128 ^ 8 := Nat.pow_le_pow_right (by omega) (by omega)
            omega
        have Eb : IntKind.u64.wrap ((x : Int) * 2 ^ (7 * I)) = (y : Int) := by
          have := shl_pow x I (j := I) rfl (by omega)
          rw [show (7 * (I : Int)).toNat = 7 * I from by omega] at this
          rw [this, hy]
        have Ec : bits .or .u64 (U : Int) (y : Int) = (V : Int) := by rw [hy, hV, hy]; exact or_add I U x hU.out (by omega)
        have hV' := Lib.hid (show V < 18446744073709551616 from hV64)
        have Es : wrap64 ((V : Int) / 2) = (V : Int) / 2 := by unfold wrap64; omega
        have HV : Hid (128 ≤ b.toNat → V < 128 ^ (I + 1)) := Lib.hid (fun h => by
          have h9 : ¬ I = 9 := by omega
          rw [if_neg h9] at hUy
          have := hU.out
          rw [Nat.pow_succ]; omega)
        have HNB := Lib.hid hbad
        clear hx hy hV hUy hV64 hbad
        by_cases hm : 128 ≤ b.toNat
        · have hm' : (128 : Int) ≤ (b.toNat : Int) := by omega
          have h9 : ¬ (I : Int) = 9 := by have := HNB.out; omega
          have h9b : ((I : Int) == 9) = false := by simpa using h9
          have HSM := Lib.hid (show scan 0 0 (l.drop at_) = scan (I + 1) V (l.drop (at_ + I + 1)) from by rw [hS.out, HS.out, if_neg HNB.out, if_pos hm])
          have HM := Lib.hid hm
          clear hm h9
          go_wp2
          go_roundw
          case rel => exact ⟨V, I + 1, rfl, by go_num, by have := HNB.out; have := HM.out; omega, Lib.hid (HV.out HM.out), HSM, R1, Lib.hid (grown_trans hG.out G1.out)⟩
          case measure => simp [intOf]; have := HNB.out; have := HM.out; omega
        · have hm' : ¬ (128 : Int) ≤ (b.toNat : Int) := by omega
          have hz0 : b.toNat ≠ 0 ∨ I = 0 ∨ (b.toNat = 0 ∧ 0 < I) := by omega
          have HM := Lib.hid hm
          clear hm
          obtain ⟨z, hz⟩ : ∃ z : Nat, z = V % 2 := ⟨_, rfl⟩
          have hz1 : (z : Int) < 2 := by omega
          have Ed : bits .and .u64 (V : Int) 1 = (z : Int) := by rw [and1 V hV'.out, hz]
          obtain ⟨N, hN⟩ : ∃ N : Int, N = unfoldI V := ⟨_, rfl⟩
          have Ee : bits .xor .i64 ((V : Int) / 2) (-(z : Int)) = N := by rw [hN]; exact unfold_bits V z hV'.out hz
          have HN := Lib.hid hN
          clear hz hN
          have h9e : ((I : Int) == 9) = true ∧ ¬ (1 : Int) < (b.toNat : Int) ∨ ((I : Int) == 9) = false := by
            by_cases h9 : I = 9
            · exact .inl ⟨by simp; omega, by have := HNB.out; omega⟩
            · exact .inr (by simp; omega)
          by_cases hzz : b.toNat = 0 ∧ 0 < I
          · have HE := Lib.hid (show numberF low high (l.drop at_) = .error 21 from by unfold numberF; rw [if_neg (by omega), hS.out, HS.out, if_neg HNB.out, if_neg HM.out, if_pos hzz])
            have hb0 : ((b.toNat : Int) == 0) = true := by simp; omega
            have hI0 : (0 : Int) < (I : Int) := by omega
            clear hzz hz0
            rcases h9e with ⟨h9b, hb1⟩ | h9b
            all_goals
              go_wp2
              exact ⟨rfl, grown_trans hG.out G1.out, by rw [HE.out]; exact ⟨rfl, _, R1.out⟩⟩
          · have hz' : ((b.toNat : Int) == 0) = true ∧ ¬ (0 : Int) < (I : Int) ∨ ((b.toNat : Int) == 0) = false := by
              by_cases h0 : b.toNat = 0
              · exact .inl ⟨by simp; omega, by omega⟩
              · exact .inr (by simp; omega)
            have HNF := Lib.hid (show numberF low high (l.drop at_) = if N < low ∨ high < N then .error 21 else .ok (N, I + 1) from by unfold numberF; rw [if_neg (by omega), hS.out, HS.out, if_neg HNB.out, if_neg HM.out, if_neg hzz, HN.out])
            clear hzz hz0
            by_cases hr : N < low ∨ high < N
            · have HE := Lib.hid (show numberF low high (l.drop at_) = .error 21 from by rw [HNF.out, if_pos hr])
              have hr' : N < low ∨ ¬ N < low ∧ high < N := by omega
              clear hr
              rcases hr' with hr1 | ⟨hr1, hr2⟩
              all_goals rcases h9e with ⟨h9b, hb1⟩ | h9b
              all_goals rcases hz' with ⟨hz0, hz2⟩ | hz0
              all_goals
                go_wp2
                exact ⟨rfl, grown_trans hG.out G1.out, by rw [HE.out]; exact ⟨rfl, _, R1.out⟩⟩
            · have HE := Lib.hid (show numberF low high (l.drop at_) = .ok (N, I + 1) from by rw [HNF.out, if_neg hr])
              have hr1 : ¬ N < low := by omega
              have hr2 : ¬ high < N := by omega
              clear hr
              rcases h9e with ⟨h9b, hb1⟩ | h9b
              all_goals rcases hz' with ⟨hz0, hz2⟩ | hz0
              all_goals
                go_wp2
                go_ret
                exact ⟨grown_trans hG.out G1.out, by rw [HE.out]; exact ⟨rfl, R1.out⟩⟩
    · have HE := Lib.hid (show numberF low high (l.drop at_) = .error 20 from by
        unfold numberF; rw [if_neg (by omega), hS.out, List.drop_of_length_le (by omega)]; rfl)
      go_wp2_with fail
      refine (take_cut hR.out 1 (by omega)).mono ?_
      rintro e w1 ⟨rfl, m, rfl⟩
      unfold gaveUp
      go_wp2
      exact ⟨rfl, grown_trans hG.out (drewN_grown _ _ _), by rw [HE.out]; exact ⟨rfl, _, hR.out.drewN m⟩⟩

end Go.Proofs.Ytnnladfndmdapaa
