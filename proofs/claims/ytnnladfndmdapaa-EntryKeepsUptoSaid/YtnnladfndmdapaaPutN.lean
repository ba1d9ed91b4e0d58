/- codec.width and codec.Put at every kind: contracts (printed by a program of this claim's own). -/
import Derived.Test.YtnnladfndmdapaaCodec1
namespace Go.Proofs.Ytnnladfndmdapaa
open Go.RowKit
theorem pow256 (d : Nat) : ((256 ^ (d + 1) - 1 : Nat) : Int) / 256 = ((256 ^ d - 1 : Nat) : Int) := by
  have h : 0 < 256 ^ d := Nat.pow_pos (by decide)
  rw [Nat.pow_succ]; omega
theorem shr_byte (v d : Nat) {j : Int} (h : j = (d : Int)) : (v : Int) / 2 ^ (8 * j).toNat % 256 = ((v / 256 ^ d % 256 : Nat) : Int) := by
  subst h
  rw [show (8 * (d : Int)).toNat = 8 * d from by omega, show (256 : Nat) ^ d = 2 ^ (8 * d) from by rw [Nat.pow_mul]]
  have : ((2 : Int) ^ (8 * d)) = ((2 ^ (8 * d) : Nat) : Int) := by simp
  rw [this]; omega
theorem shr_byte' (v d : Nat) (hv : v < 256) {j : Int} (h : j = (d : Int)) : (v : Int) / 2 ^ (8 * j).toNat = ((v / 256 ^ d % 256 : Nat) : Int) := by
  rw [← shr_byte v d h]
  subst h
  have : ((2 : Int) ^ (8 * (d : Int)).toNat) = ((2 ^ (8 * (d : Int)).toNat : Nat) : Int) := by simp
  rw [this]
  have h := Nat.div_le_self v (2 ^ (8 * (d : Int)).toNat)
  rw [← Int.natCast_ediv]
  generalize v / 2 ^ (8 * (d : Int)).toNat = q at h ⊢
  omega
theorem width8_any {w : World} : Calls Try.prog 91 #[] w fun e w' => e = .returned (.int .i64 1) ∧ w = w' := by
  go_enter Try.func91, Try.ntmps91
  go_wp2
  go_loop [1, 2] (fun n u => ∃ k d : Nat, n = .int .i64 k ∧ u = .int .u64 ((256 ^ d - 1 : Nat) : Int) ∧ Hid (k + d = 1)) (fun n _ => 1 - (intOf n).toNat)
  case atStart => exact ⟨0, 1, rfl, rfl, Lib.hid rfl⟩
  case round =>
    obtain ⟨k, d, rfl, rfl, hd⟩ := hrel
    have hk2 : k ≤ 1 := by have := hd.out; omega
    cases d with
    | zero =>
      have hk : k = 1 := by have := hd.out; omega
      subst hk
      go_wp2
      go_ret
      exact ⟨rfl, rfl⟩
    | succ d =>
      have hp : 0 < 256 ^ d := Nat.pow_pos (by decide)
      have hb : (0 : Int) < ((256 ^ (d + 1) - 1 : Nat) : Int) := by rw [Nat.pow_succ]; omega
      obtain ⟨X, hX⟩ : ∃ X : Nat, X = 256 ^ (d + 1) - 1 := ⟨_, rfl⟩
      rw [← hX] at hb ⊢
      have HX := Lib.hid hX
      clear hX hp
      go_wp2
      go_round
      case rel => exact ⟨k + 1, d, by go_num, by rw [HX.out, pow256], Lib.hid (by have := hd.out; omega)⟩
      case measure => simp [intOf]; have := hd.out; omega
theorem put8_any {w : World} {B c : Nat} {A : Option Addr} {l : List UInt8} (v : Nat) (hr : BReads w B A l)
    (hv : v < 256) (hl : l.length ≤ 140737488355200) :
    Calls Try.prog 55 #[.slice A l.length c, .int .u8 v] w (GivesB w (l ++ beN 1 v)) := by
  have hv' : (v : Int) < 256 := by omega
  have HV := Lib.hid hv
  clear hv
  go_enter Try.func55, Try.ntmps55
  go_wp2_with fail
  refine (own_any hr (by omega)).mono ?_
  rintro e w1 h
  obtain ⟨L1, A1, c1, rfl, E1, O1, _, B1⟩ := h.named
  clear h
  go_wp2_with fail
  refine width8_any.mono ?_
  rintro e w2 ⟨rfl, rfl⟩
  go_wp2
  go_loopw [0, 5] (fun b i wr => ∃ (j : Int) (k d : Nat) (pre : List UInt8), i = .int .i64 j ∧ Hid (j = (d : Int) - 1) ∧ Hid (k + d = 1) ∧ Hid (beN 1 v = pre ++ beN d v) ∧ Hid (BOwns wr w.heap.size b (l ++ pre)) ∧ Hid (Below w.heap.size w wr)) (fun _ i _ => (intOf i + 1).toNat)
  case atStart => exact ⟨_, 0, 1, [], rfl, Lib.hid (by omega), Lib.hid (by omega), Lib.hid rfl, Lib.hid (by rw [List.append_nil, ← E1.out]; exact O1.out), B1⟩
  case round =>
    obtain ⟨j, k, d, pre, rfl, hj, hd, hpre, ho, hb⟩ := hrel
    by_cases h1 : 0 ≤ j
    · have h2 : j < 8 := by have := hd.out; have := hj.out; omega
      obtain ⟨d, rfl⟩ : ∃ d', d = d' + 1 := ⟨d - 1, by have := hj.out; omega⟩
      have hpl : (l ++ pre).length ≤ 140737488355300 := by
        have e := congrArg List.length hpre.out
        rw [List.length_append, beN_length, beN_length] at e
        rw [List.length_append]; omega
      go_wp2_with (at_builtin; refine Stop.of ?_)
      refine ⟨append_bytes (m := [UInt8.ofNat (v / 256 ^ d % 256)]) (ho.out.alloc _) (byte_src wr _ (by rw [u8_int _ (by omega)]; first | exact shr_byte v d (by have := hj.out; omega) | exact shr_byte' v d HV.out (by have := hj.out; omega))) (by simp only [List.length_cons, List.length_nil]; omega) (by have := hb.out.size; simp; omega) rfl rfl rfl rfl ?_⟩
      intro v' w3 ho1 hg1 _
      have HO := Lib.hid ho1
      have HB := Lib.hid (below_grown (hb.out.trans ((Below.refl _ _).alloc hb.out.size _)) (ho.out.alloc _) hg1)
      clear ho1 hg1 hpl
      go_wp2
      go_roundw
      case rel => exact ⟨_, k + 1, d, pre ++ [UInt8.ofNat (v / 256 ^ d % 256)], rfl, Lib.hid (by have := hj.out; omega), Lib.hid (by have := hd.out; omega), Lib.hid (by rw [hpre.out]; simp [beN]), Lib.hid (by rw [← List.append_assoc]; exact HO.out), HB⟩
      case measure => simp [intOf]; omega
    · go_wp2
      go_ret
      obtain rfl : d = 0 := by have := hj.out; omega
      exact ⟨_, rfl, by rw [hpre.out]; simpa [beN] using ho.out, hb.out⟩
theorem width32_any {w : World} : Calls Try.prog 118 #[] w fun e w' => e = .returned (.int .i64 4) ∧ w = w' := by
  go_enter Try.func118, Try.ntmps118
  go_wp2
  go_loop [1, 2] (fun n u => ∃ k d : Nat, n = .int .i64 k ∧ u = .int .u64 ((256 ^ d - 1 : Nat) : Int) ∧ Hid (k + d = 4)) (fun n _ => 4 - (intOf n).toNat)
  case atStart => exact ⟨0, 4, rfl, rfl, Lib.hid rfl⟩
  case round =>
    obtain ⟨k, d, rfl, rfl, hd⟩ := hrel
    have hk2 : k ≤ 4 := by have := hd.out; omega
    cases d with
    | zero =>
      have hk : k = 4 := by have := hd.out; omega
      subst hk
      go_wp2
      go_ret
      exact ⟨rfl, rfl⟩
    | succ d =>
      have hp : 0 < 256 ^ d := Nat.pow_pos (by decide)
      have hb : (0 : Int) < ((256 ^ (d + 1) - 1 : Nat) : Int) := by rw [Nat.pow_succ]; omega
      obtain ⟨X, hX⟩ : ∃ X : Nat, X = 256 ^ (d + 1) - 1 := ⟨_, rfl⟩
      rw [← hX] at hb ⊢
      have HX := Lib.hid hX
      clear hX hp
      go_wp2
      go_round
      case rel => exact ⟨k + 1, d, by go_num, by rw [HX.out, pow256], Lib.hid (by have := hd.out; omega)⟩
      case measure => simp [intOf]; have := hd.out; omega
theorem put32_any {w : World} {B c : Nat} {A : Option Addr} {l : List UInt8} (v : Nat) (hr : BReads w B A l)
    (hv : v < 4294967296) (hl : l.length ≤ 140737488355200) :
    Calls Try.prog 108 #[.slice A l.length c, .int .u32 v] w (GivesB w (l ++ beN 4 v)) := by
  have hv' : (v : Int) < 4294967296 := by omega
  have HV := Lib.hid hv
  clear hv
  go_enter Try.func108, Try.ntmps108
  go_wp2_with fail
  refine (own_any hr (by omega)).mono ?_
  rintro e w1 h
  obtain ⟨L1, A1, c1, rfl, E1, O1, _, B1⟩ := h.named
  clear h
  go_wp2_with fail
  refine width32_any.mono ?_
  rintro e w2 ⟨rfl, rfl⟩
  go_wp2
  go_loopw [0, 5] (fun b i wr => ∃ (j : Int) (k d : Nat) (pre : List UInt8), i = .int .i64 j ∧ Hid (j = (d : Int) - 1) ∧ Hid (k + d = 4) ∧ Hid (beN 4 v = pre ++ beN d v) ∧ Hid (BOwns wr w.heap.size b (l ++ pre)) ∧ Hid (Below w.heap.size w wr)) (fun _ i _ => (intOf i + 1).toNat)
  case atStart => exact ⟨_, 0, 4, [], rfl, Lib.hid (by omega), Lib.hid (by omega), Lib.hid rfl, Lib.hid (by rw [List.append_nil, ← E1.out]; exact O1.out), B1⟩
  case round =>
    obtain ⟨j, k, d, pre, rfl, hj, hd, hpre, ho, hb⟩ := hrel
    by_cases h1 : 0 ≤ j
    · have h2 : j < 8 := by have := hd.out; have := hj.out; omega
      obtain ⟨d, rfl⟩ : ∃ d', d = d' + 1 := ⟨d - 1, by have := hj.out; omega⟩
      have hpl : (l ++ pre).length ≤ 140737488355300 := by
        have e := congrArg List.length hpre.out
        rw [List.length_append, beN_length, beN_length] at e
        rw [List.length_append]; omega
      go_wp2_with (at_builtin; refine Stop.of ?_)
      refine ⟨append_bytes (m := [UInt8.ofNat (v / 256 ^ d % 256)]) (ho.out.alloc _) (byte_src wr _ (by rw [u8_int _ (by omega)]; first | exact shr_byte v d (by have := hj.out; omega) | exact shr_byte' v d HV.out (by have := hj.out; omega))) (by simp only [List.length_cons, List.length_nil]; omega) (by have := hb.out.size; simp; omega) rfl rfl rfl rfl ?_⟩
      intro v' w3 ho1 hg1 _
      have HO := Lib.hid ho1
      have HB := Lib.hid (below_grown (hb.out.trans ((Below.refl _ _).alloc hb.out.size _)) (ho.out.alloc _) hg1)
      clear ho1 hg1 hpl
      go_wp2
      go_roundw
      case rel => exact ⟨_, k + 1, d, pre ++ [UInt8.ofNat (v / 256 ^ d % 256)], rfl, Lib.hid (by have := hj.out; omega), Lib.hid (by have := hd.out; omega), Lib.hid (by rw [hpre.out]; simp [beN]), Lib.hid (by rw [← List.append_assoc]; exact HO.out), HB⟩
      case measure => simp [intOf]; omega
    · go_wp2
      go_ret
      obtain rfl : d = 0 := by have := hj.out; omega
      exact ⟨_, rfl, by rw [hpre.out]; simpa [beN] using ho.out, hb.out⟩
end Go.Proofs.Ytnnladfndmdapaa
