/- Laws of layer 20: behind a Rebuild the log ends where the last whole group ends, and another one answers the same: the law's walk. -/
import Derived.Test.YtmnpchncmbnddaaGreatG22
set_option linter.all false
set_option linter.unusedVariables false
set_option linter.unusedSimpArgs false
set_option linter.unnecessarySimpa false
namespace Go.Proofs.YtmnpchncmbnddaaGreat
open Go.RowKit

/-- What holds of a log behind a Rebuild. -/
structure KeepOk (b : List UInt8) (q : Pt) (es : List En) : Prop where
  base : q.a.base = 0
  safe : q.a.safe ≤ q.a.l.length
  d0 : 0 ≤ q.done
  d1 : q.done ≤ 1
  l : q.a.l = framesF es
  may : ∀ e ∈ es, e.may
  le : q.a.l.length ≤ b.length
theorem keep_ok {b z : List UInt8} {es : List En} {ga c n : Nat} {A : Option Addr} (hz : b = framesF es ++ z) (hm : ∀ e ∈ es, e.may) : KeepOk b ((loadPt ga A c 0 b).keep (framesF (es.take n)).length) (es.take n) := by
  have h1 : b = framesF (es.take n) ++ (framesF (es.drop n) ++ z) := by rw [← List.append_assoc, ← frames_take, ← hz]
  have hm' : ∀ e ∈ es.take n, e.may := fun e he => hm e (List.mem_of_mem_take he)
  have hl := congrArg List.length h1
  rw [List.length_append] at hl
  unfold Pt.keep
  by_cases hk : (framesF (es.take n)).length < (loadPt ga A c 0 b).a.l.length
  · rw [if_pos hk]
    have e1 : b.take (framesF (es.take n)).length = framesF (es.take n) := by
      conv => lhs; rw [h1]
      rw [List.take_left' rfl]
    refine ⟨rfl, ?_, by show (0 : Int) ≤ 0 + 1; decide, by show (0 : Int) + 1 ≤ 1; decide, e1, hm', ?_⟩
    · show min b.length _ ≤ (b.take _).length
      rw [e1]; exact Nat.min_le_right _ _
    · show (b.take _).length ≤ b.length
      rw [List.length_take]; exact Nat.min_le_right _ _
  · rw [if_neg hk]
    have hk' : ¬ (framesF (es.take n)).length < b.length := hk
    have e1 : b = framesF (es.take n) := by
      have h2 : (framesF (es.drop n) ++ z) = [] := List.length_eq_zero_iff.1 (by omega)
      rw [h2, List.append_nil] at h1
      exact h1
    exact ⟨rfl, Nat.le_refl _, Int.le_refl _, by show (0 : Int) ≤ 1; decide, e1, hm', Nat.le_refl _⟩
theorem keep_same {b : List UInt8} {q : Pt} {es : List En} (h : KeepOk b q es) (n : Nat) (hn : es.length ≤ n) : q.keep (framesF (es.take n)).length = q := by
  unfold Pt.keep
  rw [List.take_of_length_le hn, if_neg (by rw [h.l]; exact Nat.lt_irrefl _)]
set_option maxRecDepth 100000 in
set_option maxHeartbeats 12800000 in
theorem rebuildOnce_walk {w : World} {A0 : Option Addr} {c0 : Nat} {b : List UInt8} (h0 : BReads w w.heap.size A0 b) (start : Int) (hn0 : IntKind.min .i64 ≤ start) (hn1 : start ≤ IntKind.max .i64) (hk : b.length ≤ 1048576) :
    Calls Tryz.prog 8 #[.slice A0 b.length c0, .int .i64 start] w (True_ w) := by
  have HOP := Lib.hid (lopen20_any (c := c0) h0 (by omega))
  obtain ⟨es, z, hz, hm, htl⟩ := tellF_split b
  have HZ := Lib.hid (And.intro hz (And.intro hm htl))
  obtain ⟨M, hM⟩ : ∃ M, M = b.length := ⟨_, rfl⟩
  have HM := Lib.hid hM
  rw [← hM] at hk HOP ⊢
  clear h0 hn0 hn1 hM hz hm htl
  go_enter Tryz.func8, Tryz.ntmps8
  go_wp2_with fail
  refine HOP.out.mono ?_
  rintro e w1 ⟨g, gp, gl, ga, A, c, rfl, t⟩
  have T1 := Lib.hid t
  clear t HOP
  go_wp2_with fail
  refine rebuildFixed_any.mono ?_
  rintro e w2 ⟨rfl, hb⟩
  have T2 := Lib.hid (T1.out.go hb)
  clear hb T1
  by_cases hs0 : start < 0
  · have d0 : decide (start < 0) = true := decide_eq_true hs0
    have HR := Lib.hid (show True_ w (.returned (.bool true)) w2 from ⟨rfl, T2.out.free⟩)
    clear hs0 T2
    go_wp2
    go_ret
    exact HR.out
  have d0 : decide (start < 0) = false := decide_eq_false hs0
  by_cases hs1 : 4611686018427387904 < start
  · have d1 : decide (4611686018427387904 < start) = true := decide_eq_true hs1
    have HR := Lib.hid (show True_ w (.returned (.bool true)) w2 from ⟨rfl, T2.out.free⟩)
    clear hs0 hs1 T2
    go_wp2
    go_ret
    exact HR.out
  have d1 : decide (4611686018427387904 < start) = false := decide_eq_false hs1
  have HST := Lib.hid (show 0 ≤ start ∧ start ≤ 4611686018427387904 from ⟨by omega, by omega⟩)
  clear hs0 hs1
  have HRB := Lib.hid (rebuild_any (w := w2) (start := start) (es := es) (z := z) (T2.out.get (i := 0) rfl) (Int.le_refl _) (by show (0 : Int) ≤ _; decide) (by show b.length ≤ _; rw [← HM.out]; omega) (Nat.le_refl _) (Int.le_refl _) (by show (0 : Int) ≤ _; decide) HST.out.1 HST.out.2 HZ.out.1 HZ.out.2.1 HZ.out.2.2)
  go_wp2_with fail
  refine HRB.out.mono ?_
  rintro e w3 ⟨S, now, n, hg, ⟨_, s, rfl, hok, hv, t⟩ | ⟨_, ha, _⟩⟩
  rotate_left
  · cases ha
  have HG := Lib.hid (And.intro hg (And.intro hok hv))
  obtain ⟨q, hq⟩ : ∃ q, q = (loadPt ga A c 0 b).keep (framesF (es.take n)).length := ⟨_, rfl⟩
  have HKO := Lib.hid (show KeepOk b q (es.take n) from hq ▸ keep_ok HZ.out.1 HZ.out.2.1)
  rw [← hq] at t
  have T3 := Lib.hid ((T2.out.sameR same_one).trans t)
  have HGW := Lib.hid hg.whole
  have HNL := Lib.hid (show (es.take n).length = n from by rw [List.length_take]; have := hg.1.le; omega)
  have HNM := Lib.hid (show n ≤ M from by
    have h1 := framesF_ge (es.take n)
    rw [HNL.out] at h1
    have h2 := HKO.out.le
    rw [HKO.out.l, ← HM.out] at h2
    omega)
  have hnM : n ≤ M := HNM.out
  obtain ⟨k, hkk⟩ : ∃ k, k = (framesF (es.take n)).length := ⟨_, rfl⟩
  have HKK := Lib.hid hkk
  have hkM : k ≤ M := by
    have h2 := HKO.out.le
    rw [HKO.out.l, ← HM.out] at h2
    omega
  have HEN := Lib.hid (entries_tell (w := w3) (es := es.take n) (T3.out.get (i := 0) rfl) (by rw [HKO.out.base]; exact Int.le_refl _) (by rw [HKO.out.base]; decide) (by have := HKO.out.le; have := HM.out; omega) HKO.out.safe (by rw [HKO.out.l]; exact tellF_frames HKO.out.may))
  rw [HKO.out.base] at HEN
  clear hg hok hv hq t hkk T2 HRB
  go_wp2_with fail
  refine HEN.out.mono ?_
  rintro e w4 ⟨ts, A9, A10, c9, c10, hts, rfl, t4⟩
  rw [HNL.out] at t4 ⊢
  have T4 := Lib.hid (T3.out.join t4)
  have hNc : n ≤ c9 := rowE_cap (t4.get (i := 0) rfl)
  have HSE := Lib.hid (show kEn.Sl w4 w4.heap.size A9 (es.take n) from by
    have h := sl_told (t4.get (i := 0) rfl) (by rw [← HNL.out, ← hts, List.length_map]) (fun i hi => Item.all_get t4.p (List.mem_cons_of_mem _ (List.mem_cons_of_mem _ hi))) (by rw [hts]; exact HKO.out.may)
    rwa [hts] at h)
  have HRD := Lib.hid (rbRead_any (w := w4) (start := start) (c := c9) HSE.out (Nat.le_refl _) (by rw [HNL.out]; omega) (by rw [HNL.out]; exact hNc) (fun e he => by
    have := may_small (HKO.out.may e he)
    omega))
  rw [HNL.out] at HRD
  clear hts t4 HEN T3
  go_wp2_with fail
  refine HRD.out.mono ?_
  rintro e w5 ⟨S2, now2, n2, hg2, s2, rfl, hok2, hv2, t5⟩
  obtain ⟨rfl, rfl, rfl⟩ := hg2.one HGW.out
  have T5 := Lib.hid (show Turn (Item.all []) w (Item.all [lg gl g gp false q, s.item, Item.rowT 3 1 (.slice A10 n2 c10) n2 (ivs (endsI 0 (es.take n2)))]) w5 from by
    have t := T4.out.go t5.free
    refine (t.permR (M := lg gl g gp false q :: s.item :: Item.rowT 3 1 (.slice A10 n2 c10) n2 (ivs (endsI 0 (es.take n2))) :: Item.rowT 105 6 (.slice A9 n2 c9) n2 (toldCells ts) :: toldRows ts) ?_).sub (List.Sublist.cons_cons _ (List.Sublist.cons_cons _ (List.Sublist.cons_cons _ (List.nil_sublist _))))
    exact List.Perm.cons _ (List.Perm.cons _ (List.Perm.swap _ _ _)))
  have HBO := Lib.hid (lBounds_any (w := w5) (d := ⟨g, gp, false, [q]⟩) 0 (p := q) (T5.out.get (i := 0) rfl) (by simp) rfl (by rw [HKO.out.base]; exact Int.le_refl _) (by rw [HKO.out.base]; decide) (by have := HKO.out.le; have := HM.out; omega) HKO.out.safe)
  rw [HKO.out.base, HKO.out.l, ← HKK.out, Int.zero_add, Int.zero_add] at HBO
  obtain ⟨sf, hsf⟩ : ∃ x, x = q.a.safe := ⟨_, rfl⟩
  rw [← hsf] at HBO
  clear hg2 hok2 hv2 t5 HRD T4 HSE hsf
  go_wp2_with fail
  refine HBO.out.mono ?_
  rintro e w6 ⟨rfl, hb⟩
  have T6 := Lib.hid (T5.out.go hb)
  clear hb HBO T5
  have x1 : ((n2 : Int) != (n2 : Int)) = false := bne_self_eq_false _
  have x2 : decide ((M : Int) < (k : Int)) = false := decide_eq_false (by omega)
  have x3 : decide (M < k) = false := decide_eq_false (by omega)
  go_upto_region 10 with fail
  go_cut [99] from 65 to 99 (fun u wc => u = .bool false ∧ wc = w6)
  case first =>
    by_cases hn : n2 = 0
    · have hk0 : k = 0 := by rw [HKK.out, hn]; rfl
      subst hn
      subst hk0
      go_wp2_with fail
      go_meet
      exact ⟨rfl, rfl⟩
    · obtain ⟨J, hJ⟩ : ∃ J, J + 1 = n2 := ⟨n2 - 1, by omega⟩
      have hJN : J < n2 := by omega
      have hJ1 : (n2 : Int) - 1 = (J : Int) := by omega
      have x4 : ((n2 : Int) == 0) = false := beq_false_of_ne (by omega)
      have x5 : decide ((n2 : Int) = 0) = false := decide_eq_false (by omega)
      have x6 : decide (n2 = 0) = false := decide_eq_false hn
      have x7 : decide (0 < n2) = true := decide_eq_true (by omega)
      have x8 : ((k : Int) != (k : Int)) = false := bne_self_eq_false _
      obtain ⟨hir, _⟩ := rowI_reads (T6.out.get (i := 2) rfl) (by rw [endsI_len, HNL.out])
      obtain ⟨bb, off, hA, hbl, hcell⟩ := hir.2 (by rw [endsI_len, HNL.out]; omega)
      subst hA
      have y0 : w6.cell? ⟨bb, off + J, none⟩ = some (.int .i64 k) := by
        refine hcell J _ ?_
        rw [ivs_get]
        unfold endsI
        rw [List.getElem?_map, offsF_get (es.take n2) 0 J (by rw [HNL.out]; exact hJN), hJ, List.take_take, Nat.min_self]
        simp only [Option.map_some, Nat.zero_add]
        rw [← HKK.out, Int.zero_add]
      clear hcell hir hn hJ
      go_wp2_with fail
      go_meet
      exact ⟨rfl, rfl⟩
  case rest =>
    obtain ⟨rfl, hwc⟩ := hcut
    have hwc' := hwc.symm
    subst hwc'
    have HDN := Lib.hid (dDone_any (w := w6) (d := ⟨g, gp, false, [q]⟩) (lg_disk (T6.out.get (i := 0) rfl)) (by simp) 0 rfl)
    obtain ⟨dn, hdn⟩ : ∃ x, x = q.done := ⟨_, rfl⟩
    have HDE := Lib.hid hdn
    rw [← hdn] at HDN
    clear hdn
    go_wp2_with fail
    refine HDN.out.mono ?_
    rintro e w7 ⟨rfl, hw⟩
    subst hw
    have HRB := Lib.hid (rebuild_any (w := w6) (start := start) (es := es.take n2) (z := []) (T6.out.get (i := 0) rfl) (by rw [HKO.out.base]; exact Int.le_refl _) (by rw [HKO.out.base]; decide) (by have := HKO.out.le; have := HM.out; omega) HKO.out.safe HKO.out.d0 (by have := HKO.out.d1; omega) HST.out.1 HST.out.2 (by rw [List.append_nil]; exact HKO.out.l) HKO.out.may (by rw [HKO.out.l]; exact tellF_frames HKO.out.may))
    clear HDN
    go_wp2_with fail
    refine HRB.out.mono ?_
    rintro e w8 ⟨S3, now3, n3, hg3, ⟨_, s3, rfl, hok3, hv3, t8⟩ | ⟨_, ha, _⟩⟩
    rotate_left
    · cases ha
    obtain ⟨rfl, rfl, rfl⟩ := hg3.one HGW.out
    have HK3 := Lib.hid (And.intro hok3 hv3)
    rw [keep_same HKO.out n3 (by rw [HNL.out]; exact Nat.le_refl _)] at t8
    have T8 := Lib.hid (show Turn (Item.all []) w (Item.all [lg gl g gp false q, s3.item, s.item]) w8 from by
      have t := T6.out.step (i := 0) rfl t8
      have t2 := t.sameR same_flat
      exact t2.sub (M := [_, _, _]) (List.Sublist.cons_cons _ (List.Sublist.cons_cons _ (List.Sublist.cons_cons _ (List.nil_sublist _)))))
    have HOK := Lib.hid (show PsOk S3 now3 ∧ totP S3 ≤ n3 from ⟨HG.out.1.1.ok.1, HG.out.1.1.ok.2.1⟩)
    have HV1 := Lib.hid (rbVers_any (w := w8) (T8.out.get (i := 2) rfl) HG.out.2.1 (by rw [HG.out.2.2]; exact HOK.out.1) (by omega) (by rw [HG.out.2.2]; have := HOK.out.2; omega))
    rw [HG.out.2.2] at HV1
    clear hg3 hok3 hv3 t8 HRB T6
    go_wp2_with fail
    refine HV1.out.mono ?_
    rintro e w9 ⟨Aa, ca, rfl, hsa, hb⟩
    have T9 := Lib.hid (T8.out.go hb)
    have HSA := Lib.hid hsa
    have HV2 := Lib.hid (rbVers_any (w := w9) (T9.out.get (i := 1) rfl) HK3.out.1 (by rw [HK3.out.2]; exact HOK.out.1) (by omega) (by rw [HK3.out.2]; have := HOK.out.2; omega))
    rw [HK3.out.2] at HV2
    obtain ⟨nv, hnv⟩ : ∃ x, x = (versF S3).length := ⟨_, rfl⟩
    have HNV := Lib.hid hnv
    have hnvb : nv ≤ M := by rw [hnv, totP_vers]; have := HOK.out.2; omega
    rw [← hnv] at HV2 ⊢
    clear hsa hb HV1 T8 hnv
    go_wp2_with fail
    refine HV2.out.mono ?_
    rintro e wa ⟨Ab, cb, rfl, hsb, hb⟩
    have Ta := Lib.hid (T9.out.go hb)
    have HAL := Lib.hid (alike_any (w := wa) (c := ca) (c' := cb) (l := versF S3) ((HSA.out.below hb).more hb.size) hsb (by rw [← HNV.out]; omega))
    rw [← HNV.out] at HAL
    clear hsb hb HV2 HSA T9
    go_wp2_with fail
    refine HAL.out.mono ?_
    rintro e wb ⟨rfl, hb⟩
    have Tb := Lib.hid (Ta.out.go hb)
    have HDN := Lib.hid (dDone_any (w := wb) (d := ⟨g, gp, false, [q]⟩) (lg_disk (Tb.out.get (i := 0) rfl)) (by simp) 0 rfl)
    rw [← HDE.out] at HDN
    clear hb HAL Ta
    go_wp2_with fail
    refine HDN.out.mono ?_
    rintro e wc ⟨rfl, hw⟩
    subst hw
    have HR := Lib.hid (show True_ w (.returned (.bool true)) _ from ⟨rfl, Tb.out.free⟩)
    clear Tb HDN
    go_wp2
    go_ret
    exact HR.out
end Go.Proofs.YtmnpchncmbnddaaGreat

