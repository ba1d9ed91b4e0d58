/- Laws of layer 20: Read of an Image is the store, at the beginning and behind other groups: the law's walk. -/
import Derived.Test.YtoecgkdipgaaeaaG24
import Derived.Test.YtoecgkdipgaaeaaRebL1
import Derived.Test.YtoecgkdipgaaeaaCmtL2
set_option linter.all false
set_option linter.unusedVariables false
set_option linter.unusedSimpArgs false
set_option linter.unnecessarySimpa false
namespace Go.Proofs.Ytoecgkdipgaaeaa
open Go.RowKit

set_option maxRecDepth 100000 in
set_option maxHeartbeats 12800000 in
theorem rebuildCheckpoint_walk {w : World} {A0 A2 : Option Addr} {c0 c2 : Nat} {ah : List En} {vs : List Vn} (h0 : kEn.Sl w w.heap.size A0 ah) (hc0 : ah.length ≤ c0) (start : Int) (hn0 : IntKind.min .i64 ≤ start) (hn1 : start ≤ IntKind.max .i64) (h2 : kVn.Sl w w.heap.size A2 vs) (st : Int) (hm0 : IntKind.min .i64 ≤ st) (hm1 : st ≤ IntKind.max .i64)
    (hk : (kSlice kEn).bulk ah + 1 + (kSlice kVn).bulk vs + 1 ≤ 1048576) :
    Calls Try.prog 6 #[.slice A0 ah.length c0, .int .i64 start, .slice A2 vs.length c2, .int .i64 st] w (True_ w) := by
  have hbk := ens_bulk ah
  have hbv := vns_bulk vs
  have HKS := Lib.hid (show ∀ e ∈ ah, e.key.size ≤ 1099511627776 ∧ e.value.length ≤ 1099511627776 from fun e he => by have := hbk.2 e he; omega)
  have HKV := Lib.hid (show ∀ v ∈ vs, v.key.size ≤ maxLen ∧ v.value.length ≤ 140737488355328 from fun v hv => by have := hbv.2 v hv; unfold maxLen; omega)
  have HS := Lib.hid h0
  have HV := Lib.hid h2
  obtain ⟨N, hN⟩ : ∃ N, N = ah.length := ⟨_, rfl⟩
  obtain ⟨M, hM⟩ : ∃ M, M = vs.length := ⟨_, rfl⟩
  have HN := Lib.hid hN
  have HM := Lib.hid hM
  have hNl : N ≤ 1048576 := by omega
  have hMl : M ≤ 1048576 := by have := hbv.1; omega
  rw [← hN] at hc0 ⊢
  rw [← hM]
  clear h0 h2 hn0 hn1 hm0 hm1 hk hbk hbv hN hM
  go_enter Try.func6, Try.ntmps6
  go_wp2_with fail
  refine rebuildFixed_any.mono ?_
  rintro e w1 ⟨rfl, hb⟩
  have B1 := Lib.hid hb
  have HT1 := Lib.hid (show True_ w (.returned (.bool true)) w1 from ⟨rfl, hb⟩)
  clear hb
  by_cases e1 : st < 0
  · have d1 : decide (st < 0) = true := decide_eq_true e1
    clear e1
    go_wp2
    go_ret
    exact HT1.out
  have d1 : decide (st < 0) = false := decide_eq_false e1
  by_cases e2 : 4611686018427387904 < st
  · have d2 : decide (4611686018427387904 < st) = true := decide_eq_true e2
    clear e1 e2
    go_wp2
    go_ret
    exact HT1.out
  have d2 : decide (4611686018427387904 < st) = false := decide_eq_false e2
  have HST := Lib.hid (show 0 ≤ st ∧ st ≤ 4611686018427387904 from ⟨by omega, by omega⟩)
  clear e1 e2
  by_cases e3 : st < start
  · have d3 : decide (st < start) = true := decide_eq_true e3
    clear e3
    go_wp2
    go_ret
    exact HT1.out
  have d3 : decide (st < start) = false := decide_eq_false e3
  have HSS := Lib.hid (show start ≤ st from by omega)
  clear e3 HT1
  have HF1 := Lib.hid (filled_any (w := w1) (c := c2) (top := st) (HV.out.below B1.out) B1.out.size (by rw [← HM.out]; omega) HKV.out)
  rw [← HM.out] at HF1
  go_wp2_with fail
  refine HF1.out.mono ?_
  rintro e w2 ⟨s1, rfl, hok, hv, t⟩
  have HK1 := Lib.hid (And.intro hok hv)
  have T2 := Lib.hid t
  have HPS := Lib.hid (fildL_ok vs st)
  obtain ⟨S1, hS1⟩ : ∃ S, S = fildL vs st := ⟨_, rfl⟩
  have HSE := Lib.hid hS1
  have HTS := Lib.hid (show totP S1 ≤ 1048576 from by have := HPS.out.2; rw [hS1]; have := HM.out; omega)
  have hPS := HPS.out.1
  rw [← hS1] at hPS HK1
  have HP1 := Lib.hid hPS
  have HIM := Lib.hid (image_any (w := w2) (st := st) (T2.out.get (i := 0) rfl) HK1.out.1 (by rw [HK1.out.2]; exact HP1.out) (by rw [← HM.out]; omega) (by rw [HK1.out.2]; have := HTS.out; omega))
  rw [HK1.out.2] at HIM
  clear hok hv t hS1 HF1 HPS hPS
  go_wp2_with fail
  refine HIM.out.mono ?_
  rintro e w3 ⟨ts, A3, n3, c3, hts, hn3, rfl, t⟩
  have T3 := Lib.hid (T2.out.join t)
  have HMY := Lib.hid (imgF_may HP1.out HST.out.1 HST.out.2 (by have := HTS.out; omega))
  have HL3 := Lib.hid hn3
  have hn3b : n3 ≤ 1048578 := by rw [hn3, imgF_len]; have := HTS.out; omega
  have HS3 := Lib.hid (show kEn.Sl w3 w3.heap.size A3 (imgF S1 st) from hts ▸ sl_told (t.get (i := 0) rfl) (by rw [hn3, ← hts, List.length_map]) (fun i hi => Item.all_get t.p (List.mem_cons_of_mem _ hi)) (by rw [hts]; exact HMY.out))
  have hc3 : n3 ≤ c3 := by
    obtain ⟨_, _, e, hc, _⟩ := own_slice (show w3.ownsRow 0 _ 6 _ n3 _ from t.get (i := 0) rfl)
    injection e with _ _ e2
    omega
  have HMS := Lib.hid (show ∀ e ∈ imgF S1 st, e.key.size ≤ 1099511627776 ∧ e.value.length ≤ 1099511627776 from fun e he => by
    have := En.may_bounds (HMY.out e he)
    omega)
  have HRD := Lib.hid (rbRead_any (w := w3) (start := start) (c := c3) HS3.out (Nat.le_refl _) (by rw [← HL3.out]; omega) (by rw [← HL3.out]; exact hc3) HMS.out)
  rw [← HL3.out] at HRD
  clear hts hn3 t HIM
  go_wp2_with fail
  refine HRD.out.mono ?_
  rintro e w4 ⟨S4, now4, n4, hg, s4, rfl, hok, hv, t⟩
  have hie := img_end HP1.out HST.out.1 HST.out.2 (show totP S1 ≤ 2147483647 from by have := HTS.out; omega) HSS.out
  rw [← HL3.out] at hie
  obtain ⟨rfl, rfl, rfl⟩ := hg.one hie
  have HK4 := Lib.hid (And.intro hok hv)
  have T4 := Lib.hid (T3.out.go t.free)
  have T4b := Lib.hid t
  clear hie hg hok hv t HRD HS3
  have HV1 := Lib.hid (rbVers_any (w := w4) (T4b.out.get (i := 0) rfl) HK4.out.1 (by rw [HK4.out.2]; exact HP1.out) (by omega) (by rw [HK4.out.2]; have := HTS.out; omega))
  rw [HK4.out.2] at HV1
  go_wp2_with fail
  refine HV1.out.mono ?_
  rintro e w5 ⟨A5, c5, rfl, hs5, hb5⟩
  have T5 := Lib.hid (T4.out.go hb5)
  have HS5 := Lib.hid hs5
  have HV2 := Lib.hid (rbVers_any (w := w5) (T5.out.get (i := 0) rfl) HK1.out.1 (by rw [HK1.out.2]; exact HP1.out) (by rw [← HM.out]; omega) (by rw [HK1.out.2]; have := HTS.out; omega))
  rw [HK1.out.2] at HV2
  clear hs5 hb5 HV1 T4 T4b
  go_wp2_with fail
  refine HV2.out.mono ?_
  rintro e w6 ⟨A6, c6, rfl, hs6, hb6⟩
  have HAL := Lib.hid (alike_any (c := c5) (c' := c6) ((HS5.out.below hb6).more hb6.size) hs6 (by rw [totP_vers]; have := HTS.out; omega))
  have B6 := Lib.hid (B1.out.trans ((T5.out.go hb6).free.mono B1.out.size))
  clear hs6 hb6 HV2 T5
  go_wp2_with fail
  refine HAL.out.mono ?_
  rintro e w7 ⟨rfl, hb7⟩
  have B7 := Lib.hid (B6.out.trans (hb7.mono B6.out.size))
  have HRD := Lib.hid (rbRead_any (w := w7) (start := start) (c := c0) (HS.out.below B7.out) B7.out.size (by rw [← HN.out]; omega) (by rw [← HN.out]; exact hc0) HKS.out)
  rw [← HN.out] at HRD
  clear hb7 HAL B6 HS5 T2 T3 B1
  go_wp2_with fail
  refine HRD.out.mono ?_
  rintro e w8 ⟨S8, now8, n8, hg, s8, rfl, _, _, t⟩
  have B8 := Lib.hid (B7.out.trans (t.free.mono B7.out.size))
  have HG8 := Lib.hid hg
  have hnN : n8 ≤ N := by have := hg.1.le; rw [← HN.out] at this; exact this
  clear hg t HRD B7
  by_cases hz : n8 = 0
  · subst hz
    have HR := Lib.hid (show True_ w (.returned (.bool true)) w8 from ⟨rfl, B8.out⟩)
    have d9 : decide ((0 : Int) ≤ (N : Int)) = true := decide_eq_true (by omega)
    go_wp2
    go_ret
    exact HR.out
  have HOK8 := Lib.hid (HG8.out.1.ok.2.2.2 (by omega))
  have d4 : decide ((n8 : Int) = 0) = false := decide_eq_false (by omega)
  have d5 : decide (now8 < 0) = false := decide_eq_false (by have := HOK8.out.1; omega)
  have d6 : decide (4611686018427387904 < now8) = false := decide_eq_false (by have := HOK8.out.2; omega)
  have d7 : decide ((N : Int) < (n8 : Int)) = false := decide_eq_false (by omega)
  have d8 : decide (N < n8) = false := decide_eq_false (by omega)
  have hn8p : 0 < n8 := by omega
  clear hz
  have HF2 := Lib.hid (filled_any (w := w8) (c := c2) (top := now8) (HV.out.below B8.out) B8.out.size (by rw [← HM.out]; omega) HKV.out)
  rw [← HM.out] at HF2
  go_wp2_with fail
  refine HF2.out.mono ?_
  rintro e w9 ⟨s9, rfl, hok, hv, t⟩
  have HK9 := Lib.hid (And.intro hok hv)
  have T9 := Lib.hid t
  have HPS := Lib.hid (fildL_ok vs now8)
  obtain ⟨S9, hS9⟩ : ∃ S, S = fildL vs now8 := ⟨_, rfl⟩
  have HTS9 := Lib.hid (show totP S9 ≤ 1048576 from by have := HPS.out.2; rw [hS9]; have := HM.out; omega)
  have hPS := HPS.out.1
  rw [← hS9] at hPS HK9
  have HP9 := Lib.hid hPS
  have B9 := Lib.hid (B8.out.trans (t.free.mono B8.out.size))
  clear hok hv t hS9 HF2 HPS hPS
  have hKl : 0 < ah.length := by have := HN.out; omega
  obtain ⟨bb, off, Av, cv, hA, hbb, k1, k2, k3, k4, k5, k6, k7, k8⟩ := en_at HS.out hKl
  subst hA
  clear hbb k1 k2 k3 k4 k5 k6 k7 k8 hKl
  have hn8c : n8 ≤ c0 := by omega
  go_wp2_with (at_builtin; refine Stop.of ?_)
  obtain ⟨w10, hw10⟩ : ∃ x, x = w9.alloc (.cells #[] 31) := ⟨_, rfl⟩
  have T10 := Lib.hid (show Turn (Item.all []) w8 (Item.all [s9.item, Item.rowT 31 6 (.slice (some ⟨w9.heap.size, 0, none⟩) 0 0) 0 []]) w10 from by
    rw [hw10]
    exact (T9.out.more (y := Item.rowT 31 6 (.slice (some ⟨w9.heap.size, 0, none⟩) 0 0) 0 []) ((Below.refl _ _).alloc (Nat.le_refl _) _) (row_new rfl (by decide)) (fun k hk => own_new hk)).by_ 2 rfl [1, 0] (by decide))
  rw [← hw10]
  clear hw10
  obtain ⟨ts0, hts0, hrd0, hok0⟩ := sl_tolds (sl_take (k := n8) HS.out)
  have HTL := Lib.hid (show (ah.take n8).length = n8 from by rw [List.length_take, ← HN.out]; omega)
  rw [HTL.out] at hrd0
  have HOK0 := Lib.hid hok0
  have HTS0 := Lib.hid hts0
  have B10 := Lib.hid (B8.out.trans (T10.out.free.mono B8.out.size))
  have HR0 := Lib.hid (hrd0.below B10.out)
  clear hrd0 hok0 hts0 T9
  refine ⟨wpList_append_any _ rfl rfl 0 Try.underlying25 Try.info31 rfl (by decide) (by decide) rfl (T10.out.get (i := 1) rfl) rfl (Reads.src HR0.out Try.underlying25 c0 (told_ones ts0)) (by omega) (Nat.zero_le _) ?_⟩
  intro v' w11 ho hg hf
  rw [Nat.zero_add, List.nil_append] at ho
  have T11 := Lib.hid (T10.out.step (i := 1) rfl (Turn.rowT (v := .slice (some ⟨w9.heap.size, 0, none⟩) 0 0) (n := 0) (xs := []) ho hg hf))
  obtain ⟨A11, c11, rfl, _, _⟩ := own_slice ho
  have HIM := Lib.hid (image_any (w := w11) (st := now8) (T11.out.get (i := 0) rfl) HK9.out.1 (by rw [HK9.out.2]; exact HP9.out) (by rw [← HM.out]; omega) (by rw [HK9.out.2]; have := HTS9.out; omega))
  rw [HK9.out.2] at HIM
  clear ho hg hf T10 HR0
  go_wp2_with fail
  refine HIM.out.mono ?_
  rintro e w12 ⟨tsI, A12, n12, c12, hts, hn12, rfl, t⟩
  have T12 := Lib.hid (T11.out.join t)
  have HMY9 := Lib.hid (imgF_may HP9.out HOK8.out.1 HOK8.out.2 (by have := HTS9.out; omega))
  have hn12b : n12 ≤ 1048578 := by rw [hn12, imgF_len]; have := HTS9.out; omega
  have HTI := Lib.hid hts
  have HN12 := Lib.hid hn12
  clear hts hn12 t HIM T11
  go_wp2_with (at_builtin; refine Stop.of ?_)
  refine ⟨wpList_append_any _ rfl rfl 0 Try.underlying25 Try.info31 rfl (by decide) (by decide) rfl (T12.out.get (i := 1) rfl) rfl (Reads.src (Reads.of_own (T12.out.get (i := 2) rfl)) Try.underlying25 c12 (told_ones tsI)) (by omega) (Nat.zero_le _) ?_⟩
  intro v' w13 ho hg hf
  obtain ⟨P, hP⟩ : ∃ P, P = n8 + n12 := ⟨_, rfl⟩
  have HP := Lib.hid hP
  have hPb : P ≤ 4194304 := by omega
  rw [← hP] at ho
  have T13 := Lib.hid (T12.out.step (i := 1) rfl (Turn.rowT (v := .slice A11 n8 c11) (n := n8) (xs := toldCells ts0) ho hg hf))
  obtain ⟨A13, c13, rfl, hc13, _⟩ := own_slice ho
  rw [← toldCells_append] at T13
  have B13 := Lib.hid (B8.out.trans (T13.out.free.mono B8.out.size))
  have HL13 := Lib.hid (show (ah.take n8 ++ imgF S9 now8).length = P from by rw [List.length_append, HTL.out, ← HN12.out, HP.out])
  have HS13 := Lib.hid (show kEn.Sl w13 w13.heap.size A13 (ah.take n8 ++ imgF S9 now8) from by
    have hh := sl_of_row (ts := ts0 ++ tsI) (B := w13.heap.size) (T13.out.get (i := 1) rfl) (by
      rw [← List.length_map (f := Told.x), List.map_append, HTS0.out, HTI.out, HL13.out]) (fun k hk => Item.lt _ (T13.out.get (i := 1) rfl) hk) (fun t ht => by
      rcases List.mem_append.1 ht with ht | ht
      · exact (HOK0.out t ht).go B13.out B13.out.size
      · exact rows_ok (ts := tsI) (fun i hi => Item.all_get T13.out.p (List.mem_cons_of_mem _ (List.mem_cons_of_mem _ (List.mem_cons_of_mem _ hi)))) (by rw [HTI.out]; exact HMY9.out) t ht)
    rwa [List.map_append, HTS0.out, HTI.out] at hh)
  have HMS13 := Lib.hid (show ∀ e ∈ ah.take n8 ++ imgF S9 now8, e.key.size ≤ 1099511627776 ∧ e.value.length ≤ 1099511627776 from fun e he => by
    rcases List.mem_append.1 he with he | he
    · exact HKS.out e (List.mem_of_mem_take he)
    · have := En.may_bounds (HMY9.out e he)
      omega)
  have HRD := Lib.hid (rbRead_any (w := w13) (start := start) (c := c13) HS13.out (Nat.le_refl _) (by rw [HL13.out]; omega) (by rw [HL13.out]; exact hc13) HMS13.out)
  rw [HL13.out] at HRD
  clear ho hg hf hP hc13 T12
  go_wp2_with fail
  refine HRD.out.mono ?_
  rintro e w14 ⟨S14, now14, n14, hg, s14, rfl, hok, hv, t⟩
  have hie := img_behind HG8.out.1 HP9.out HOK8.out.1 HOK8.out.2 (show totP S9 ≤ 2147483647 from by have := HTS9.out; omega)
  rw [HL13.out] at hie
  obtain ⟨rfl, rfl, rfl⟩ := hg.one hie
  have HK14 := Lib.hid (And.intro hok hv)
  have T14 := Lib.hid (T13.out.go t.free)
  have T14b := Lib.hid t
  have B14 := Lib.hid (B13.out.trans (t.free.mono B13.out.size))
  clear hie hg hok hv t HRD HS13 T13
  have HV1 := Lib.hid (rbVers_any (w := w14) (T14b.out.get (i := 0) rfl) HK14.out.1 (by rw [HK14.out.2]; exact HP9.out) (by omega) (by rw [HK14.out.2]; have := HTS9.out; omega))
  rw [HK14.out.2] at HV1
  go_wp2_with fail
  refine HV1.out.mono ?_
  rintro e w15 ⟨A15, c15, rfl, hs15, hb15⟩
  have T15 := Lib.hid (T14.out.go hb15)
  have HS15 := Lib.hid hs15
  have HV2 := Lib.hid (rbVers_any (w := w15) (T15.out.get (i := 0) rfl) HK9.out.1 (by rw [HK9.out.2]; exact HP9.out) (by rw [← HM.out]; omega) (by rw [HK9.out.2]; have := HTS9.out; omega))
  rw [HK9.out.2] at HV2
  have B15 := Lib.hid (B14.out.trans (hb15.mono B14.out.size))
  clear hs15 hb15 HV1 T14 T14b
  go_wp2_with fail
  refine HV2.out.mono ?_
  rintro e w16 ⟨A16, c16, rfl, hs16, hb16⟩
  have HAL := Lib.hid (alike_any (c := c15) (c' := c16) ((HS15.out.below hb16).more hb16.size) hs16 (by rw [totP_vers]; have := HTS9.out; omega))
  have B16 := Lib.hid (B15.out.trans (hb16.mono B15.out.size))
  clear hs16 hb16 HV2 T15
  go_wp2_with fail
  refine HAL.out.mono ?_
  rintro e w17 ⟨rfl, hb17⟩
  have HR := Lib.hid (show True_ w (.returned (.bool true)) w17 from ⟨rfl, B16.out.trans (hb17.mono B16.out.size)⟩)
  clear hb17 HAL
  go_wp2
  go_ret
  exact HR.out
end Go.Proofs.Ytoecgkdipgaaeaa
