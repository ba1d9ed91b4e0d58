/- The reference's reader: unfold, form. -/
import Derived.Test.YtoeccclaaogihaaPlainR
import Derived.Test.YtoeccclaaogihaaCodec1
namespace Go.Proofs.Ytoeccclaaogihaa
open Go.RowKit

theorem unfold_any {w : World} (u : Nat) (hu : u < 18446744073709551616) : Calls Try.prog 81 #[.int .u64 u] w fun e w' => e = .returned (.int .i64 (unfoldI u)) ∧ w = w' := by
  by_cases h : u % 2 = 0
  · have hb : ((u : Int) % 2 == 0) = true := by simp; omega
    have HE := Lib.hid (show unfoldI u = wrap64 (IntKind.u64.wrap ((u : Int) / 2)) from by unfold unfoldI; rw [if_pos h, wrap_u64]; unfold wrap64; omega)
    clear h hu
    go_enter Try.func81, Try.ntmps81
    go_wp2
    go_ret
    exact ⟨by rw [HE.out]; rfl, rfl⟩
  · have hb : ((u : Int) % 2 == 0) = false := by simp; omega
    have HE := Lib.hid (show unfoldI u = wrap64 (wrap64 (-wrap64 (IntKind.u64.wrap ((u : Int) / 2))) - 1) from by unfold unfoldI; rw [if_neg h, wrap_u64]; unfold wrap64; omega)
    clear h hu
    go_enter Try.func81, Try.ntmps81
    go_wp2
    go_ret
    first | exact ⟨by rw [HE.out]; rfl, rfl⟩ | (exact ⟨by rw [HE.out]; simp, rfl⟩)

def AnsForm (x : Nat × Nat × Int) (e : Ending) : Prop := e = .returned (.tuple #[.int .u64 x.1, .int .i64 x.2.1, .int .i64 x.2.2])
set_option maxRecDepth 100000 in
theorem form_any {w : World} {B c : Nat} {A : Option Addr} {l : List UInt8} (hr : BReads w B A l) (hl : l.length ≤ 140737488355328) :
    Calls Try.prog 80 #[.slice A l.length c] w fun e w' => AnsForm (formF l) e ∧ w = w' := by
  have HR := Lib.hid hr
  clear hr
  go_enter Try.func80, Try.ntmps80
  go_wp2
  go_loop [5] (fun i => ∃ I : Nat, i = .int .i64 I ∧ I ≤ 9 ∧ I ≤ l.length ∧ Hid (scan 0 0 l = scan I (valF (l.take I)) (l.drop I))) (fun i => 9 - (intOf i).toNat)
  case atStart => exact ⟨0, rfl, by omega, by omega, Lib.hid rfl⟩
  case round =>
    obtain ⟨I, rfl, hI, hIl, hS⟩ := hrel
    by_cases hlt : I < l.length
    · obtain ⟨b1, o1, rfl, _, hc1⟩ := HR.out.at_ hlt
      have hs1 := scan_step hlt
      obtain ⟨b, hb⟩ : ∃ b, b = l[I] := ⟨_, rfl⟩
      rw [← hb] at hc1 hs1
      have HS := Lib.hid hs1
      have HB := Lib.hid hb
      have hbl : (b.toNat : Int) < 256 := by have := b.toNat_lt; omega
      have hI0 : (0 : Int) ≤ (I : Int) := by omega
      have hI1 : (I : Int) < (l.length : Int) := by omega
      clear hs1 hb
      by_cases hbad : I = 9 ∧ 1 < b.toNat
      · obtain ⟨h9, hb1⟩ := hbad
        have hb1' : (1 : Int) < (b.toNat : Int) := by omega
        have h9b : ((I : Int) == 9) = true := by simp; omega
        have HE := Lib.hid (show formF l = (0, 0, 21) from by unfold formF; rw [hS.out, HS.out, if_pos ⟨h9, hb1⟩])
        clear h9 hb1
        go_wp2
        go_ret3
        exact ⟨by rw [HE.out]; rfl, rfl⟩
      · have h9e : ((I : Int) == 9) = true ∧ ¬ (1 : Int) < (b.toNat : Int) ∨ ((I : Int) == 9) = false := by
          by_cases h9 : I = 9
          · exact .inl ⟨by simp; omega, by omega⟩
          · exact .inr (by simp; omega)
        have HNB := Lib.hid hbad
        clear hbad
        by_cases hm : 128 ≤ b.toNat
        · have hm' : (128 : Int) ≤ (b.toNat : Int) := by omega
          have HM := Lib.hid hm
          clear hm
          rcases h9e with ⟨h9b, hb1⟩ | h9b
          · omega
          · go_wp2
            go_round
            case rel => exact ⟨I + 1, by go_num, by have := HNB.out; have := HM.out; omega, by omega, Lib.hid (by rw [hS.out, HS.out, if_neg HNB.out, if_pos HM.out])⟩
            case measure => simp [intOf]; have := HNB.out; have := HM.out; omega
        · have hm' : ¬ (128 : Int) ≤ (b.toNat : Int) := by omega
          have HM := Lib.hid hm
          clear hm
          by_cases hzz : b.toNat = 0 ∧ 0 < I
          · have HE := Lib.hid (show formF l = (0, 0, 21) from by unfold formF; rw [hS.out, HS.out, if_neg HNB.out, if_neg HM.out, if_pos hzz])
            have hb0 : ((b.toNat : Int) == 0) = true := by simp; omega
            have hI0 : (0 : Int) < (I : Int) := by omega
            clear hzz
            rcases h9e with ⟨h9b, hb1⟩ | h9b
            all_goals
              go_wp2
              go_ret3
              exact ⟨by rw [HE.out]; rfl, rfl⟩
          · have hz' : ((b.toNat : Int) == 0) = true ∧ ¬ (0 : Int) < (I : Int) ∨ ((b.toNat : Int) == 0) = false := by
              by_cases h0 : b.toNat = 0
              · exact .inl ⟨by simp; omega, by omega⟩
              · exact .inr (by simp; omega)
            have HE := Lib.hid (show formF l = (valF (l.take (I + 1)), I + 1, 0) from by unfold formF; rw [hS.out, HS.out, if_neg HNB.out, if_neg HM.out, if_neg hzz])
            have HV := Lib.hid (show valF (l.take (I + 1)) < 18446744073709551616 from by
              have hs : scan 0 0 l = .ok (valF (l.take (I + 1)), I + 1) := by rw [hS.out, HS.out, if_neg HNB.out, if_neg HM.out, if_neg hzz]
              exact ((scan_ok hs).2.2 (by omega) (by decide)).1)
            have HP := Lib.hid (show (l.take (I + 1)).length = I + 1 from by rw [List.length_take]; omega)
            have HL := Lib.hid hlt
            clear hzz
            rcases h9e with ⟨h9b, hb1⟩ | h9b
            all_goals rcases hz' with ⟨hz0, hz2⟩ | hz0
            all_goals
              obtain ⟨p, hp⟩ : ∃ p, p = l.take (I + 1) := ⟨_, rfl⟩
              rw [← hp] at HE HV HP
              have HPE := Lib.hid hp
              clear hp
              go_wp2
              go_loop [6, 7] (fun f j => ∃ (J : Int) (d V : Nat), j = .int .i64 J ∧ f = .int .u64 V ∧ J ≤ 9 ∧ Hid (J = (d : Int) - 1) ∧ d ≤ I + 1 ∧ Hid (V = valF (p.drop d))) (fun _ j => (intOf j + 1).toNat)
              case atStart => exact ⟨I, I + 1, 0, rfl, rfl, by omega, Lib.hid (by omega), by omega, Lib.hid (by rw [List.drop_of_length_le (by rw [HP.out]; exact Nat.le_refl _)]; rfl)⟩
              case round =>
                obtain ⟨J, d, V, rfl, rfl, hJ9, hJ, hd, hV⟩ := hrel
                by_cases hJ0 : 0 ≤ J
                · obtain ⟨d, rfl⟩ : ∃ d', d = d' + 1 := ⟨d - 1, by have := hJ.out; omega⟩
                  have hdl : d < l.length := by have := HL.out; omega
                  have hdp : d < p.length := by have := HP.out; omega
                  obtain ⟨b2, o2, e2, _, hc2⟩ := HR.out.at_ hdl
                  injection e2 with e2
                  injection e2 with e3 e4
                  subst e3; subst e4
                  have hJd : J.toNat = d := by have := hJ.out; omega
                  have hJl : J < (l.length : Int) := by have := hJ.out; omega
                  have hpd : p[d] = l[d] := by simp only [HPE.out, List.getElem_take]
                  obtain ⟨bb, hbb⟩ : ∃ bb, bb = l[d] := ⟨_, rfl⟩
                  rw [← hbb, ← hJd] at hc2
                  have hvd := valF_drop hdp
                  rw [hpd, ← hbb, ← hV.out] at hvd
                  have hle := valF_drop_le p d
                  have hv64 := HV.out
                  obtain ⟨V', hV'⟩ : ∃ V', V' = valF (p.drop d) := ⟨_, rfl⟩
                  rw [← hV'] at hvd hle
                  have E1 : IntKind.u64.wrap ((V : Int) * 128) = (V : Int) * 128 := by rw [wrap_u64]; omega
                  have E2 : IntKind.u64.wrap ((V : Int) * 128 + (bb.toNat : Int) % 128) = (V' : Int) := by rw [wrap_u64]; omega
                  have hbl2 : (bb.toNat : Int) < 256 := by have := bb.toNat_lt; omega
                  have HV' := Lib.hid hV'
                  clear hvd hle hv64 hV' hbb hpd hJd
                  go_wp2
                  go_round
                  case rel => exact ⟨_, d, V', rfl, rfl, by omega, Lib.hid (by have := hJ.out; omega), by omega, HV'⟩
                  case measure => simp [intOf]; omega
                · go_wp2
                  go_ret3
                  obtain rfl : d = 0 := by have := hJ.out; omega
                  exact ⟨by rw [HE.out]; show Ending.returned _ = _; simp only [hV.out, List.drop_zero]; rfl, rfl⟩
    · have HE := Lib.hid (show formF l = (0, 0, 20) from by unfold formF; rw [hS.out, List.drop_of_length_le (by omega)]; rfl)
      go_wp2
      go_ret3
      exact ⟨by rw [HE.out]; rfl, rfl⟩
end Go.Proofs.Ytoeccclaaogihaa
