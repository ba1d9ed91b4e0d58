/- The reference's Put: its contract. -/
import Derived.Test.YtoeccclaaogihaaPutN
namespace Go.Proofs.Ytoeccclaaogihaa
open Go.RowKit

theorem div_pow_step (v j : Nat) : v / 256 ^ j / 256 = v / 256 ^ (j + 1) := by rw [Nat.div_div_eq_div_mul, Nat.pow_succ]

theorem refPut_any {w : World} {c : Nat} {A : Option Addr} {l : List UInt8} (v W : Nat) (hr : BReads w w.heap.size A l)
    (hv : v < 18446744073709551616) (hW : W ≤ 8) (hl : l.length ≤ 140737488355200) :
    Calls Try.prog 26 #[.slice A l.length c, .int .u64 v, .int .i64 W] w (GivesB w (l ++ beN W v)) := by
  have HR := Lib.hid (hr.below ((Below.refl _ w).alloc (Nat.le_refl _) (.cells #[] 5)))
  have HV := Lib.hid hv
  have HW := Lib.hid hW
  clear hv hr hW
  go_enter Try.func26, Try.ntmps26
  go_wp2_with (at_builtin; refine Stop.of ?_)
  refine ⟨append_bytes (empty_owns w) HR.out.src (by simp only [List.length_nil]; omega) (by simp) rfl rfl rfl rfl ?_⟩
  intro v1 w1 ho hg _
  have B1 := Lib.hid (show Below w.heap.size w w1 from below_grown ((Below.refl _ _).alloc (Nat.le_refl _) _) (empty_owns w) hg)
  rw [List.nil_append] at ho
  have O1 := Lib.hid ho
  clear ho hg
  go_wp2
  go_loopw [7, 8] (fun b i wr => ∃ (k d : Nat) (pre : List UInt8), i = .int .i64 d ∧ Hid (k + d = W) ∧ Hid (beN W v = pre ++ beN d v) ∧ Hid (BOwns wr w.heap.size b (l ++ pre)) ∧ Hid (Below w.heap.size w wr)) (fun _ i _ => (intOf i).toNat)
  case atStart => exact ⟨0, W, [], rfl, Lib.hid (by omega), Lib.hid rfl, Lib.hid (by rw [List.append_nil]; exact O1.out), B1⟩
  case round =>
    obtain ⟨k, d, pre, rfl, hd, hpre, ho, hb⟩ := hrel
    by_cases h1 : 0 < (d : Int)
    · have hd8 : d ≤ 8 := by have := hd.out; have := HW.out; omega
      go_wp2
      go_loop [9, 10] (fun x j => ∃ jn : Nat, j = .int .i64 jn ∧ 1 ≤ jn ∧ jn ≤ d ∧ ∃ X : Nat, x = .int .u64 X ∧ Hid (X = v / 256 ^ (jn - 1))) (fun _ j => d - (intOf j).toNat)
      case atStart => exact ⟨1, rfl, by omega, by omega, v, rfl, Lib.hid (by simp)⟩
      case round =>
        obtain ⟨jn, rfl, hj1, hj2, X, rfl, hX⟩ := hrel
        have HX64 := Lib.hid (show X < 18446744073709551616 from by have := hX.out; have := HV.out; have := Nat.div_le_self v (256 ^ (jn - 1)); omega)
        by_cases hlt : (jn : Int) < (d : Int)
        · have HE := Lib.hid (show IntKind.u64.wrap ((X : Int) / 256) = ((X / 256 : Nat) : Int) from by rw [wrap_u64]; have := HX64.out; omega)
          go_wp2
          go_round
          case rel => exact ⟨jn + 1, by go_num, by omega, by omega, X / 256, by rw [HE.out], Lib.hid (by rw [hX.out, div_pow_step]; congr 2; omega)⟩
          case measure => simp [intOf]; omega
        · have hjd : jn = d := by omega
          subst hjd
          obtain ⟨e, rfl⟩ : ∃ e, jn = e + 1 := ⟨jn - 1, by omega⟩
          have hpl : (l ++ pre).length ≤ 140737488355300 := by
            have e := congrArg List.length hpre.out
            rw [List.length_append, beN_length, beN_length] at e
            have := HW.out
            rw [List.length_append]; omega
          go_wp2_with (at_builtin; refine Stop.of ?_)
          refine ⟨append_bytes (m := [UInt8.ofNat (v / 256 ^ e % 256)]) (ho.out.alloc _) (byte_src wr _ (by have h := hX.out; rw [Nat.add_sub_cancel] at h; rw [u8_int _ (by omega), ← h]; omega)) (by simp only [List.length_cons, List.length_nil]; omega) (by have := hb.out.size; simp; omega) rfl rfl rfl rfl ?_⟩
          intro v' w3 ho1 hg1 _
          have HO := Lib.hid ho1
          have HB := Lib.hid (below_grown (hb.out.trans ((Below.refl _ _).alloc hb.out.size _)) (ho.out.alloc _) hg1)
          clear ho1 hg1 hpl
          go_wp2
          go_roundw
          case rel => exact ⟨k + 1, e, pre ++ [UInt8.ofNat (v / 256 ^ e % 256)], by go_num, Lib.hid (by have := hd.out; omega), Lib.hid (by rw [hpre.out]; simp [beN]), Lib.hid (by rw [← List.append_assoc]; exact HO.out), HB⟩
          case measure => simp [intOf]
    · go_wp2
      go_ret
      obtain rfl : d = 0 := by omega
      exact ⟨_, rfl, by rw [hpre.out]; simpa [beN] using ho.out, hb.out⟩
end Go.Proofs.Ytoeccclaaogihaa
