/- slices.Compare of bytes, the law's order. -/
import Derived.Test.YtoeccclaaogihaaPlainC
import Derived.Test.YtoeccclaaogihaaBase
namespace Go.Proofs.Ytoeccclaaogihaa
open Go.RowKit

theorem isNaN_any {w : World} (x : Nat) : Calls Try.prog 85 #[.int .u8 x] w fun e w' => e = .returned (.bool false) ∧ w = w' := by
  go_enter Try.func85, Try.ntmps85
  go_wp2
  go_ret
  first | exact ⟨rfl, rfl⟩ | exact ⟨by simp, rfl⟩
theorem cmpByte_any {w : World} (x y : Nat) : Calls Try.prog 77 #[.int .u8 x, .int .u8 y] w fun e w' => e = .returned (.int .i64 (ordI x y)) ∧ w = w' := by
  have h3 : ((x : Int) < y ∧ ordI x y = -1) ∨ (¬ ((x : Int) < y) ∧ (y : Int) < x ∧ ordI x y = 1) ∨ (¬ ((x : Int) < y) ∧ ¬ ((y : Int) < x) ∧ ordI x y = 0) := by
    unfold ordI
    rcases Nat.lt_trichotomy x y with h | h | h
    · exact .inl ⟨by omega, by rw [if_pos h]⟩
    · exact .inr (.inr ⟨by omega, by omega, by rw [if_neg (by omega), if_neg (by omega)]⟩)
    · exact .inr (.inl ⟨by omega, by omega, by rw [if_neg (by omega), if_pos h]⟩)
  obtain ⟨n, hn⟩ : ∃ n, n = ordI x y := ⟨_, rfl⟩
  rw [← hn] at h3 ⊢
  clear hn
  go_enter Try.func77, Try.ntmps77
  go_wp2_with fail
  refine (isNaN_any x).mono ?_
  rintro e w1 ⟨rfl, rfl⟩
  go_wp2_with fail
  refine (isNaN_any y).mono ?_
  rintro e w1 ⟨rfl, rfl⟩
  rcases h3 with ⟨h1, rfl⟩ | ⟨h1, h2, rfl⟩ | ⟨h1, h2, rfl⟩
  all_goals
    go_wp2
    go_ret
    exact ⟨rfl, rfl⟩
theorem order_any {w : World} (x y : Nat) : Calls Try.prog 52 #[.int .u64 x, .int .u64 y] w fun e w' => e = .returned (.int .i64 (ordI x y)) ∧ w = w' := by
  have h3 : ((x : Int) < y ∧ ordI x y = -1) ∨ (¬ ((x : Int) < y) ∧ (y : Int) < x ∧ ordI x y = 1) ∨ (¬ ((x : Int) < y) ∧ ¬ ((y : Int) < x) ∧ ordI x y = 0) := by
    unfold ordI
    rcases Nat.lt_trichotomy x y with h | h | h
    · exact .inl ⟨by omega, by rw [if_pos h]⟩
    · exact .inr (.inr ⟨by omega, by omega, by rw [if_neg (by omega), if_neg (by omega)]⟩)
    · exact .inr (.inl ⟨by omega, by omega, by rw [if_neg (by omega), if_pos h]⟩)
  obtain ⟨n, hn⟩ : ∃ n, n = ordI x y := ⟨_, rfl⟩
  rw [← hn] at h3 ⊢
  clear hn
  go_enter Try.func52, Try.ntmps52
  rcases h3 with ⟨h1, rfl⟩ | ⟨h1, h2, rfl⟩ | ⟨h1, h2, rfl⟩
  all_goals
    go_wp2
    go_ret
    exact ⟨rfl, rfl⟩
theorem compare_any {w : World} {B B' c c' : Nat} {A A' : Option Addr} {a b : List UInt8} (ha : BReads w B A a) (hb : BReads w B' A' b) (hl : a.length ≤ 140737488355328) :
    Calls Try.prog 51 #[.slice A a.length c, .slice A' b.length c'] w fun e w' => e = .returned (.int .i64 (cmpF a b)) ∧ w = w' := by
  have HA := Lib.hid ha
  have HB := Lib.hid hb
  clear ha hb
  go_enter Try.func51, Try.ntmps51
  go_wp2
  go_loop [11] (fun i => ∃ I : Nat, i = .int .i64 I ∧ I ≤ a.length ∧ I ≤ b.length ∧ Hid (cmpF a b = cmpF (a.drop I) (b.drop I))) (fun i => a.length - (intOf i).toNat)
  case atStart => exact ⟨0, rfl, by omega, by omega, Lib.hid rfl⟩
  case round =>
    obtain ⟨I, rfl, hI, hIb, hC⟩ := hrel
    by_cases h1 : (I : Int) < a.length
    · obtain ⟨b1, o1, rfl, _, hc1⟩ := HA.out.at_ (show I < a.length by omega)
      by_cases h2 : (I : Int) < b.length
      · obtain ⟨b2, o2, rfl, _, hc2⟩ := HB.out.at_ (show I < b.length by omega)
        have hs := cmpF_step (a := a) (b := b) (I := I) (by omega) (by omega)
        obtain ⟨x, hx⟩ : ∃ x, x = a[I] := ⟨_, rfl⟩
        obtain ⟨y, hy⟩ : ∃ y, y = b[I] := ⟨_, rfl⟩
        rw [← hx] at hc1 hs
        rw [← hy] at hc2 hs
        have HS := Lib.hid hs
        clear hs hx hy
        have h2' : ¬ ((b.length : Int) ≤ I) := by omega
        go_wp2_with fail
        refine (cmpByte_any x.toNat y.toNat).mono ?_
        rintro e w1 ⟨rfl, rfl⟩
        obtain ⟨n, hn⟩ : ∃ n, n = ordI x.toNat y.toNat := ⟨_, rfl⟩
        have HN := Lib.hid hn
        rw [← hn]
        by_cases h0 : n = 0
        · have hb0 : (n == 0) = true := by simp [h0]
          have HE := Lib.hid (show cmpF a b = cmpF (a.drop (I + 1)) (b.drop (I + 1)) from by rw [hC.out, HS.out, if_pos (by rw [← HN.out]; exact h0)])
          clear hn h0
          go_wp2
          go_round
          case rel => exact ⟨I + 1, by go_num, by omega, by omega, HE⟩
          case measure => simp [intOf]; omega
        · have hb0 : (n == 0) = false := by simp [h0]
          have HE := Lib.hid (show cmpF a b = n from by rw [hC.out, HS.out, if_neg (by rw [← HN.out]; exact h0), HN.out])
          clear hn h0
          go_wp2
          go_ret
          exact ⟨by rw [HE.out]; rfl, rfl⟩
      · have HE := Lib.hid (show cmpF a b = 1 from by rw [hC.out, cmpF_long (by omega) (by omega)])
        have h2' : (b.length : Int) ≤ I := by omega
        go_wp2
        go_ret
        exact ⟨by rw [HE.out]; rfl, rfl⟩
    · by_cases h2 : (a.length : Int) < b.length
      · have HE := Lib.hid (show cmpF a b = -1 from by rw [hC.out, cmpF_short (by omega) (by omega)])
        go_wp2
        go_ret
        exact ⟨by rw [HE.out]; rfl, rfl⟩
      · have HE := Lib.hid (show cmpF a b = 0 from by rw [hC.out, cmpF_end (by omega) (by omega)])
        go_wp2
        go_ret
        exact ⟨by rw [HE.out]; rfl, rfl⟩
end Go.Proofs.Ytoeccclaaogihaa
