/- CodecNone: the walk. -/
import Derived.Test.YtoeccclaaogihaaRdrN
import Derived.Test.YtoeccclaaogihaaSp
import Derived.Test.YtoeccclaaogihaaFixed
namespace Go.Proofs.Ytoeccclaaogihaa
open Go.RowKit

set_option maxRecDepth 100000 in
theorem codecNone_walk {w : World} {A' : Option Addr} {c' : Nat} {sc : List Sp} (hs : kSp.Sl w w.heap.size A' sc) (hfs : (kSlice kSp).fits sc) :
    Calls Try.prog 13 #[.slice A' sc.length c'] w fun e w' => e = .returned (.bool true) ∧ Below w.heap.size w w' := by
  have hsl : sc.length ≤ 140737488355328 := Nat.le_trans hfs.1 (by decide)
  have HS := Lib.hid hs
  clear hs hfs
  go_enter Try.func13, Try.ntmps13
  go_wp2
  go_loopw [11] (fun i wr => ∃ J : Nat, i = .int .i64 J ∧ J ≤ sc.length ∧ Hid (Below w.heap.size w wr)) (fun i _ => sc.length - (intOf i).toNat)
  case atStart => exact ⟨0, rfl, by omega, Lib.hid (Below.refl _ _)⟩
  case round =>
    obtain ⟨J, rfl, hJ, hB⟩ := hrel
    by_cases hlt2 : (J : Int) < sc.length
    · have hJl : J < sc.length := by omega
      obtain ⟨b, off, rfl, hbb, s0, s1, s2, s3⟩ := script_at (HS.out.below hB.out) hJl
      obtain ⟨S, hS⟩ : ∃ S, S = sc[J] := ⟨_, rfl⟩
      rw [← hS] at s0 s1 s2 s3
      clear hS hJl
      go_wp2_with fail
      refine (stepN_any S).mono ?_
      rintro e w1 ⟨A1, c1, rfl, hb⟩
      have KS := Lib.hid ((Blk.new wr 54 #[.int .i64 S.kind, .int .i64 S.low, .int .i64 S.high, .int .i64 S.most]).below' hb)
      have B1 := Lib.hid (hB.out.trans ((below_alloc1 hb).mono hB.out.size))
      have q0 := KS.out.cell 0
      simp at q0
      clear hb s0 s1 s2 s3
      obtain ⟨n, hn⟩ : ∃ n, n = noneF S := ⟨_, rfl⟩
      rw [← hn]
      by_cases k8 : S.kind = 8
      · have e8 : (S.kind == 8) = true := by simp [k8]
        obtain rfl : n = 1 := by rw [hn]; unfold noneF; rw [if_pos k8]
        clear k8 hn
        go_wp2
        exact ⟨⟨J + 1, by go_num, by omega, B1⟩, by simp [intOf]; omega⟩
      · by_cases k9 : S.kind = 9
        · have e8 : (S.kind == 8) = false := by simp [k8]
          have e9 : (S.kind == 9) = true := by simp [k9]
          obtain rfl : n = 1 := by rw [hn]; unfold noneF; rw [if_neg k8, if_pos k9]
          clear k8 k9 hn
          go_wp2
          exact ⟨⟨J + 1, by go_num, by omega, B1⟩, by simp [intOf]; omega⟩
        · have e8 : (S.kind == 8) = false := by simp [k8]
          have e9 : (S.kind == 9) = false := by simp [k9]
          obtain rfl : n = 0 := by rw [hn]; unfold noneF; rw [if_neg k8, if_neg k9]
          clear k8 k9 hn
          go_wp2
          exact ⟨⟨J + 1, by go_num, by omega, B1⟩, by simp [intOf]; omega⟩
    · go_wp2_with fail
      refine nilFault_any.mono ?_
      rintro e w1 ⟨rfl, rfl⟩
      go_wp2_with fail
      refine nilEnd_any.mono ?_
      rintro e w1 ⟨rfl, rfl⟩
      go_wp2_with fail
      refine nilLeft_any.mono ?_
      rintro e w1 ⟨rfl, rfl⟩
      go_wp2_with fail
      refine codecFixed_any.mono ?_
      rintro e w1 ⟨rfl, hb⟩
      have B1 := Lib.hid (hB.out.trans (hb.mono hB.out.size))
      clear hb
      go_wp2
      go_ret
      exact ⟨rfl, B1.out⟩
end Go.Proofs.Ytoeccclaaogihaa
