/- Laws of layer 20: of the first entries of a row just the whole groups that lie in them are read: the law's walk. -/
import Derived.Test.YtoecgkdipgaaeaaG23
set_option linter.all false
set_option linter.unusedVariables false
set_option linter.unusedSimpArgs false
set_option linter.unnecessarySimpa false
namespace Go.Proofs.Ytoecgkdipgaaeaa
open Go.RowKit

/-- Versions of a store that versions were applied to. -/
theorem rbVers_any {w : World} {s : St} {N : Nat} {top : Int} (h : s.item.P w) (hok : s.ok N) (hp : PsOk s.view top) (hN : N ≤ 16777216) (htot : totP s.view ≤ 1099511627776) :
    Calls Try.prog 28 #[.pointer (some ⟨s.gs, 0, none⟩)] w fun e w' => ∃ A c, e = .returned (.slice A (versF s.view).length c) ∧ kVn.Sl w' w'.heap.size A (versF s.view) ∧ Below w.heap.size w w' := by
  refine (versions_any h hok hp.cs hN (by rw [totP_vers]; exact htot)).mono ?_
  rintro e w1 ⟨hs, A, c, hhs, rfl, t1⟩
  have hl : (versF s.view).length = hs.length := by rw [← hhs, List.length_map]
  refine ⟨A, c, by rw [hl], ?_, t1.free⟩
  have := hv_sl t1.p rfl (fun e he => by
    rw [hhs] at he
    obtain ⟨h1, _, h3, _, _⟩ := hp.vn he
    have h2 : e.stamp ≤ 4611686018427387904 := by
      unfold En.chk at h1
      by_cases hm : e.ofVersion.may
      · exact (may_5v.1 hm).2.2.2.1
      · rw [if_neg hm] at h1; cases h1
    exact ⟨by omega, by omega⟩)
  rwa [hhs] at this
def RbAt (l : List En) (start : Int) (w : World) (K L : Nat) (at_ : Int) (wr : World) : Prop := (∃ S, GrpEnd (l.take K) start S at_ L) ∧ Below w.heap.size w wr
set_option maxRecDepth 100000 in
set_option maxHeartbeats 12800000 in
theorem rebuildBeginnings_walk {w : World} {A0 : Option Addr} {c0 : Nat} {l : List En} (h0 : kEn.Sl w w.heap.size A0 l) (hc0 : l.length ≤ c0) (start : Int) (hn0 : IntKind.min .i64 ≤ start) (hn1 : start ≤ IntKind.max .i64) (hk : (kSlice kEn).bulk l + 1 ≤ 1048576) :
    Calls Try.prog 7 #[.slice A0 l.length c0, .int .i64 start] w (True_ w) := by
  have hbk := ens_bulk l
  have HKS := Lib.hid (show ∀ e ∈ l, e.key.size ≤ 1099511627776 ∧ e.value.length ≤ 1099511627776 from fun e he => by have := hbk.2 e he; omega)
  have HS := Lib.hid h0
  obtain ⟨N, hN⟩ : ∃ N, N = l.length := ⟨_, rfl⟩
  have HN := Lib.hid hN
  have hNl : N ≤ 1048576 := by omega
  rw [← hN] at hc0 ⊢
  clear h0 hn0 hn1 hk hbk hN
  have HRD := Lib.hid (rbRead_any (start := start) (c := c0) HS.out (Nat.le_refl _) (by rw [← HN.out]; omega) (by rw [← HN.out]; exact hc0) HKS.out)
  rw [← HN.out] at HRD
  go_enter Try.func7, Try.ntmps7
  go_wp2_with fail
  refine HRD.out.mono ?_
  rintro e w1 ⟨S, now, n, hg, s, rfl, _, _, t⟩
  have hnN : n ≤ N := by have := hg.1.le; rw [← HN.out] at this; exact this
  have HG := Lib.hid hg
  have B1 := Lib.hid t.free
  have d1 : decide ((n : Int) < 0) = false := decide_eq_false (by omega)
  have d2 : decide ((N : Int) < (n : Int)) = false := decide_eq_false (by omega)
  have d3 : decide (N < n) = false := decide_eq_false (by omega)
  clear hg t HRD
  go_wp2_with fail
  refine rebuildFixed_any.mono ?_
  rintro e w2 ⟨rfl, hb⟩
  have T2 := Lib.hid (show RbAt l start w 0 0 start w2 from ⟨⟨[], by rw [List.take_zero]; exact GrpEnd.nil⟩, B1.out.trans (hb.mono B1.out.size)⟩)
  clear hb B1
  go_wp2
  go_loopw [39, 8, 9] (fun t u v wr => ∃ (K L : Nat) (at_ : Int), t = .int .i64 K ∧ u = .int .i64 L ∧ v = .int .i64 at_ ∧ K ≤ N ∧ L ≤ K ∧ Hid (RbAt l start w K L at_ wr)) (fun t _ _ _ => N - (intOf t).toNat)
  case atStart => exact ⟨0, 0, start, rfl, rfl, rfl, Nat.zero_le _, Nat.le_refl _, T2⟩
  case round =>
    clear T2
    obtain ⟨K, L, at_, rfl, rfl, rfl, hK, hL, hH⟩ := hrel
    by_cases hlt : (K : Int) < (N : Int)
    · have hKl : K < l.length := by have := HN.out; omega
      have hBW := Lib.hid hH.out.2
      obtain ⟨bb, off, Av, cv, hA, hbb, hints, s0, s1, s2, s3, s4, s5, hval⟩ := en_at (HS.out.below hBW.out) hKl
      subst hA
      clear hbb hints s0 s1 s2 s3 s4 s5 hval
      obtain ⟨SP, hSP⟩ := hH.out.1
      have HSP := Lib.hid hSP
      obtain ⟨m, hm⟩ : ∃ m, m = K + 1 := ⟨_, rfl⟩
      have HM := Lib.hid hm
      have hm1 : m ≤ K + 1 := by omega
      have hm2 : K + 1 ≤ m := by omega
      have hmN : m ≤ N := by omega
      have hmc : m ≤ c0 := by omega
      have hmi : (K : Int) + 1 = (m : Int) := by omega
      have HTL := Lib.hid (show (l.take m).length = m from by rw [List.length_take, ← HN.out]; omega)
      have HRD := Lib.hid (rbRead_any (w := wr) (start := start) (c := c0) (sl_take (k := m) (HS.out.below hBW.out)) hBW.out.size (by rw [HTL.out]; omega) (by rw [HTL.out]; exact hmc) (fun e he => HKS.out e (List.mem_of_mem_take he)))
      rw [HTL.out] at HRD
      clear hm hSP hH hKl
      go_wp2_with fail
      refine HRD.out.mono ?_
      rintro e w3 ⟨S2, now2, n2, hg, s2, rfl, hok, hv, t⟩
      have hn2 : n2 ≤ m := by have := hg.1.le; rw [HTL.out] at this; exact this
      have HG2 := Lib.hid hg
      have HK2 := Lib.hid (And.intro hok hv)
      have T3 := Lib.hid t
      have HB3 := Lib.hid (hBW.out.trans (t.free.mono hBW.out.size))
      have hn2c : n2 ≤ c0 := by omega
      have hn2N : n2 ≤ N := by omega
      have HTL2 := Lib.hid (show (l.take n2).length = n2 from by rw [List.length_take, ← HN.out]; omega)
      have HRD2 := Lib.hid (rbRead_any (w := w3) (start := start) (c := c0) (sl_take (k := n2) (HS.out.below HB3.out)) HB3.out.size (by rw [HTL2.out]; omega) (by rw [HTL2.out]; exact hn2c) (fun e he => HKS.out e (List.mem_of_mem_take he)))
      rw [HTL2.out] at HRD2
      clear hg hok hv t HRD
      go_wp2_with fail
      refine HRD2.out.mono ?_
      rintro e w4 ⟨S3, now3, n3, hg, s3, rfl, hok, hv, t⟩
      have hgw : GrpEnd (l.take n2) start S2 now2 n2 := by
        have := HG2.out.whole
        rwa [List.take_take, Nat.min_eq_left hn2] at this
      obtain ⟨rfl, rfl, rfl⟩ := hg.one hgw
      have HK3 := Lib.hid (And.intro hok hv)
      have T4 := Lib.hid (T3.out.join t)
      have HB4 := Lib.hid (HB3.out.trans (t.free.mono HB3.out.size))
      have HOK := Lib.hid HG2.out.1.ok
      clear hg hok hv t HRD2 hgw HTL2
      have HNX := Lib.hid (HSP.out.next (j := K) (by have := HN.out; omega) (by rw [← HM.out]; exact HG2.out))
      have HV1 := Lib.hid (rbVers_any (w := w4) (T4.out.get (i := 0) rfl) HK2.out.1 (by rw [HK2.out.2]; exact HOK.out.1) (by omega) (by rw [HK2.out.2]; have := HOK.out.2.1; omega))
      rw [HK2.out.2] at HV1
      have hc : n3 = L ∧ now3 = at_ ∨ n3 = m ∧ L < m := by
        rcases HNX.out with ⟨_, h2, h3⟩ | h
        · exact .inl ⟨h3, h2⟩
        · exact .inr ⟨by omega, by omega⟩
      have HC := Lib.hid hc
      have hge : L ≤ n3 := by rcases hc with ⟨h, _⟩ | ⟨h, h'⟩ <;> omega
      clear hc
      go_wp2_with fail
      refine HV1.out.mono ?_
      rintro e w5 ⟨A5, c5, rfl, hs5, hb5⟩
      have T5 := Lib.hid (T4.out.go hb5)
      have HS5 := Lib.hid hs5
      have HB5 := Lib.hid (HB4.out.trans (hb5.mono HB4.out.size))
      have HV2 := Lib.hid (rbVers_any (w := w5) (T5.out.get (i := 1) rfl) HK3.out.1 (by rw [HK3.out.2]; exact HOK.out.1) (by omega) (by rw [HK3.out.2]; have := HOK.out.2.1; omega))
      rw [HK3.out.2] at HV2
      clear hs5 hb5 HV1 T4
      go_wp2_with fail
      refine HV2.out.mono ?_
      rintro e w6 ⟨A6, c6, rfl, hs6, hb6⟩
      have HAL := Lib.hid (alike_any (c := c5) (c' := c6) ((HS5.out.below hb6).more hb6.size) hs6 (by rw [totP_vers]; have := HOK.out.2.1; omega))
      have HB6 := Lib.hid (HB5.out.trans (hb6.mono HB5.out.size))
      clear hs6 hb6 HV2 T5
      go_wp2_with fail
      refine HAL.out.mono ?_
      rintro e w7 ⟨rfl, hb7⟩
      have HB7 := Lib.hid (HB6.out.trans (hb7.mono HB6.out.size))
      have HRE := Lib.hid (show RbAt l start w m n3 now3 w7 from ⟨⟨_, HG2.out⟩, HB7.out⟩)
      clear hb7 HAL T3
      rcases HC.out with ⟨h1, h2⟩ | ⟨h1, h2⟩
      · subst h1
        subst h2
        go_wp2
        exact ⟨⟨m, n3, now3, by go_num, rfl, rfl, hmN, hn2, HRE⟩, by simp [intOf]; omega⟩
      · subst h1
        go_wp2
        exact ⟨⟨n3, n3, now3, by go_num, rfl, rfl, hmN, hn2, HRE⟩, by simp [intOf]; omega⟩
    · obtain rfl : K = N := by omega
      obtain ⟨SP, hSP⟩ := hH.out.1
      rw [List.take_of_length_le (by rw [← HN.out]; exact Nat.le_refl _)] at hSP
      obtain ⟨_, _, rfl⟩ := hSP.one HG.out
      have HR := Lib.hid (show True_ w (.returned (.bool true)) wr from ⟨rfl, hH.out.2⟩)
      clear hSP hH
      go_wp2
      go_ret
      exact HR.out
end Go.Proofs.Ytoecgkdipgaaeaa
