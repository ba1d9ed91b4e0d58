/- Laws of layer 20: a Rebuild that is struck, and another one behind it, answer what one alone answers: the law's walk. -/
import Derived.Test.YtmnpchncmbnddaaGreatRebL7
import Derived.Test.YtmnpchncmbnddaaGreatWalL5
set_option linter.all false
set_option linter.unusedVariables false
set_option linter.unusedSimpArgs false
set_option linter.unnecessarySimpa false
namespace Go.Proofs.YtmnpchncmbnddaaGreat
open Go.RowKit

theorem keepG {p : Pt} {es : List En} {z : List UInt8} (n : Nat) (hz : p.a.l = framesF es ++ z) (hs : p.a.safe = p.a.l.length) : (p.keep (framesF (es.take n)).length).a.l = framesF (es.take n) ∧ (p.keep (framesF (es.take n)).length).a.base = p.a.base ∧ (p.keep (framesF (es.take n)).length).a.safe = (framesF (es.take n)).length ∧ (p.keep (framesF (es.take n)).length).fk = p.fk ∧ (p.keep (framesF (es.take n)).length).ft = p.ft := by
  have h1 : p.a.l = framesF (es.take n) ++ (framesF (es.drop n) ++ z) := by rw [← List.append_assoc, ← frames_take, ← hz]
  have hl := congrArg List.length h1
  rw [List.length_append] at hl
  unfold Pt.keep
  by_cases hk : (framesF (es.take n)).length < p.a.l.length
  · rw [if_pos hk]
    have e1 : p.a.l.take (framesF (es.take n)).length = framesF (es.take n) := by
      conv => lhs; rw [h1]
      rw [List.take_left' rfl]
    refine ⟨e1, rfl, ?_, rfl, rfl⟩
    show min p.a.safe _ = _
    rw [hs, Nat.min_eq_right (by omega)]
  · rw [if_neg hk]
    have e1 : p.a.l = framesF (es.take n) := by
      have h2 : (framesF (es.drop n) ++ z) = [] := List.length_eq_zero_iff.1 (by omega)
      rw [h2, List.append_nil] at h1
      exact h1
    exact ⟨e1, rfl, by rw [hs, e1], rfl, rfl⟩
/-- A loss of power takes nothing where all is safe. -/
theorem crash_safe {a : Ar} {keep : Int} {t : UInt8} (hs : a.safe = a.l.length) : a.crash keep t = a := by
  have hk : keptF a keep = 0 := by unfold keptF; omega
  obtain ⟨g, A, c, base, l, safe⟩ := a
  simp only at hs
  unfold Ar.crash
  rw [hk, if_pos rfl]
  simp only [Nat.add_zero]
  rw [List.take_of_length_le (by omega)]
/-- What stands of the struck log: what is read of it. -/
def StruckOk (b : List UInt8) (es : List En) (start : Int) (S : PS) (now : Int) (n : Nat) (q : Pt) : Prop :=
  q.a.base = 0 ∧ q.a.safe = q.a.l.length ∧ q.a.l.length ≤ b.length ∧ ∃ es' z', q.a.l = framesF es' ++ z' ∧ (∀ e ∈ es', e.may) ∧ tellF q.a.l = endsF 0 es' ∧ GrpEnd es' start S now n ∧ (framesF (es'.take n)).length = (framesF (es.take n)).length
set_option maxRecDepth 100000 in
set_option maxHeartbeats 12800000 in
theorem rebuildStruck_walk {wi : World} {A0 : Option Addr} {c0 : Nat} {b : List UInt8} (h0 : BReads wi wi.heap.size A0 b) (start : Int) (hn0 : IntKind.min .i64 ≤ start) (hn1 : start ≤ IntKind.max .i64) (fd fk ft : Int) (hfd : (Lit.int .i64 fd).wf = true) (hfk : (Lit.int .i64 fk).wf = true) (hft : (Lit.int .u8 ft).wf = true) (hk : b.length ≤ 1048576) :
    Calls Tryz.prog 11 #[.slice A0 b.length c0, .int .i64 start, .agg #[.int .i64 fd, .int .i64 fk, .int .u8 ft]] wi (True_ wi) := by
  have HI0 := Lib.hid h0
  obtain ⟨es, z, hz, hm, htl⟩ := tellF_split b
  have HZ := Lib.hid (And.intro hz (And.intro hm htl))
  have HFD := Lib.hid hfd
  have HFK := Lib.hid hfk
  have HFT := Lib.hid hft
  have hft' : 0 ≤ ft ∧ ft < 256 := by
    have h : 0 ≤ ft ∧ ft ≤ 255 := by simpa [Lit.wf, IntKind.min, IntKind.max, IntKind.signed, IntKind.bits] using hft
    omega
  have HFB := Lib.hid hft'
  obtain ⟨M, hM⟩ : ∃ M, M = b.length := ⟨_, rfl⟩
  have HM := Lib.hid hM
  obtain ⟨w, hw⟩ : ∃ x, x = wi.alloc (.cells #[.int .i64 fd, .int .i64 fk, .int .u8 ft] 76) := ⟨_, rfl⟩
  obtain ⟨g7, hg7⟩ : ∃ x, x = wi.heap.size := ⟨_, rfl⟩
  have HW := Lib.hid hw
  have T0 := Lib.hid (show Turn (Item.all []) wi (Item.all [Item.blk g7 76 #[.int .i64 fd, .int .i64 fk, .int .u8 ft]]) w from by
    rw [hw, hg7]
    exact (Turn.none_ (w := wi)).more (y := Item.blk wi.heap.size 76 #[.int .i64 fd, .int .i64 fk, .int .u8 ft]) ((Below.refl _ _).alloc (Nat.le_refl _) _) (Blk.new _ _ _) (fun k hk => Nat.le_of_eq hk.symm))
  have HOP := Lib.hid (lopen20_any (w := w) (c := c0) ((HI0.out.below T0.out.free).more T0.out.free.size) (by omega))
  rw [← hM] at hk HOP ⊢
  clear h0 hn0 hn1 hM hz hm htl hfd hfk hft hft' hw
  go_enter Tryz.func11, Tryz.ntmps11
  go_wp2_with fail
  rw [← HW.out, ← hg7]
  clear HW hg7
  refine HOP.out.mono ?_
  rintro e w1 ⟨gd, gpd, gld, gad, Ad, cd, rfl, t⟩
  have T1 := Lib.hid (T0.out.join t)
  have HOP2 := Lib.hid (lopen20_any (w := w1) (c := c0) ((HI0.out.below T1.out.free).more T1.out.free.size) (by rw [← HM.out]; omega))
  rw [← HM.out] at HOP2
  clear t HOP T0
  go_wp2_with fail
  refine HOP2.out.mono ?_
  rintro e w2 ⟨g, gp, gl, ga, A, c, rfl, t⟩
  have T2 := Lib.hid (show Turn (Item.all []) wi (Item.all [lg gl g gp false (loadPt ga A c 0 b), lg gld gd gpd false (loadPt gad Ad cd 0 b), Item.blk g7 76 #[.int .i64 fd, .int .i64 fk, .int .u8 ft]]) w2 from (T1.out.join t).by_ 3 rfl [2, 1, 0] (by decide))
  clear t HOP2 T1
  go_wp2_with fail
  refine rebuildFixed_any.mono ?_
  rintro e w3 ⟨rfl, hb⟩
  have T3 := Lib.hid (T2.out.go hb)
  clear hb T2
  by_cases hs0 : start < 0
  · have d0 : decide (start < 0) = true := decide_eq_true hs0
    have HR := Lib.hid (show True_ wi (.returned (.bool true)) w3 from ⟨rfl, T3.out.free⟩)
    clear hs0 T3
    go_wp2
    go_ret
    exact HR.out
  have d0 : decide (start < 0) = false := decide_eq_false hs0
  by_cases hs1 : 4611686018427387904 < start
  · have d1 : decide (4611686018427387904 < start) = true := decide_eq_true hs1
    have HR := Lib.hid (show True_ wi (.returned (.bool true)) w3 from ⟨rfl, T3.out.free⟩)
    clear hs0 hs1 T3
    go_wp2
    go_ret
    exact HR.out
  have d1 : decide (4611686018427387904 < start) = false := decide_eq_false hs1
  have HST := Lib.hid (show 0 ≤ start ∧ start ≤ 4611686018427387904 from ⟨by omega, by omega⟩)
  clear hs0 hs1
  have y0 := Blk.cell (show Blk w3 g7 _ #[.int .i64 fd, .int .i64 fk, .int .u8 ft] from T3.out.get (i := 2) rfl) 0
  have y1 := Blk.cell (show Blk w3 g7 _ #[.int .i64 fd, .int .i64 fk, .int .u8 ft] from T3.out.get (i := 2) rfl) 1
  have y2 := Blk.cell (show Blk w3 g7 _ #[.int .i64 fd, .int .i64 fk, .int .u8 ft] from T3.out.get (i := 2) rfl) 2
  simp only [List.getElem?_toArray, List.getElem?_cons_zero, List.getElem?_cons_succ] at y0 y1 y2
  go_wp2_with fail
  refine (arm_lg T3.out HFD.out HFK.out HFT.out).mono ?_
  rintro e w4 ⟨rfl, t⟩
  have T4 := Lib.hid t
  clear t T3 y0 y1 y2
  obtain ⟨pA, hpA⟩ : ∃ pA : Pt, pA = { (loadPt ga A c 0 b) with fd := fd, fk := fk, ft := ft, done := 0 } := ⟨_, rfl⟩
  have HPA := Lib.hid (show pA.a = ⟨ga, A, c, 0, b, b.length⟩ ∧ pA.fk = fk ∧ pA.ft = ft ∧ pA.done = 0 from by rw [hpA]; exact ⟨rfl, rfl, rfl, rfl⟩)
  rw [← hpA] at T4
  clear hpA
  have HRB := Lib.hid (rebuild_any (w := w4) (start := start) (es := es) (z := z) (T4.out.get (i := 0) rfl) (by rw [HPA.out.1]; exact Int.le_refl _) (by rw [HPA.out.1]; show (0 : Int) ≤ _; decide) (by rw [HPA.out.1]; show b.length ≤ _; rw [← HM.out]; omega) (by rw [HPA.out.1]; exact Nat.le_refl _) (by rw [HPA.out.2.2.2]; exact Int.le_refl _) (by rw [HPA.out.2.2.2]; decide) HST.out.1 HST.out.2 (by rw [HPA.out.1]; exact HZ.out.1) HZ.out.2.1 (by rw [HPA.out.1]; exact HZ.out.2.2))
  go_wp2_with fail
  refine HRB.out.mono ?_
  rintro e w5 ⟨S, now, n, hg, hcase⟩
  have HG := Lib.hid hg
  have hfin : ∃ (v1 v2 : Value) (m : Int) (q : Pt), e = .returned (.tuple #[v1, v2, .int .i64 m]) ∧ (m = 0 ∨ m = 80) ∧ q.ft = ft ∧ StruckOk b es start S now n q ∧ Turn (Item.all []) wi (Item.all [lg gl g gp true q, lg gld gd gpd false (loadPt gad Ad cd 0 b), Item.blk g7 76 #[.int .i64 fd, .int .i64 fk, .int .u8 ft]]) w5 := by
    have hza : pA.a.l = framesF es ++ z := by rw [HPA.out.1]; exact HZ.out.1
    have hsa : pA.a.safe = pA.a.l.length := by rw [HPA.out.1]
    rcases hcase with ⟨_, s, rfl, _, _, t⟩ | ⟨_, _, _, rfl, t⟩
    · obtain ⟨k1, k2, k3, _, k5⟩ := keepG n hza hsa
      have hm' : ∀ e ∈ es.take n, e.may := fun e he => HZ.out.2.1 e (List.mem_of_mem_take he)
      refine ⟨_, _, 0, pA.keep (framesF (es.take n)).length, rfl, .inl rfl, k5.trans HPA.out.2.2.1, ⟨k2.trans (by rw [HPA.out.1]), by rw [k3, k1], ?_, es.take n, [], by rw [List.append_nil]; exact k1, hm', by rw [k1]; exact tellF_frames hm', hg.whole, by rw [List.take_take, Nat.min_self]⟩, ?_⟩
      · rw [k1, HZ.out.1, frames_take es n, List.length_append, List.length_append]; omega
      · have t1 := (T4.out.step (i := 0) rfl t).sameR same_flat
        exact t1.sub (M := [_, _, _]) (List.Sublist.cons_cons _ (List.sublist_cons_self _ _))
    · refine ⟨_, _, 80, pA, rfl, .inr rfl, HPA.out.2.2.1, ⟨by rw [HPA.out.1], hsa, by rw [HPA.out.1]; exact Nat.le_refl _, es, z, hza, HZ.out.2.1, by rw [HPA.out.1]; exact HZ.out.2.2, hg, rfl⟩, ?_⟩
      exact (T4.out.step (i := 0) rfl t).sameR same_flat
  obtain ⟨v1, v2, m, q, rfl, hm2, hqf, hq, t⟩ := hfin
  have T5 := Lib.hid t
  have HQ := Lib.hid hq
  have HQF := Lib.hid hqf
  have HM2 := Lib.hid hm2
  clear hcase hg t hq hqf hm2 HRB T4 HPA
  go_upto_region 9 with fail
  go_cut [71] from 66 to 71 (fun u wc => u = .bool false ∧ wc = w5)
  case first =>
    rcases HM2.out with rfl | rfl
    · go_wp2_with fail
      go_meet
      exact ⟨rfl, rfl⟩
    · go_wp2_with fail
      go_meet
      exact ⟨rfl, rfl⟩
  case rest =>
    obtain ⟨rfl, hwc⟩ := hcut
    have hwc' := hwc.symm
    subst hwc'
    go_wp2_with fail
    refine (strike_lg T5.out (by rw [HQ.out.2.1]; exact Nat.le_refl _) (by have := HQ.out.2.2.1; have := HM.out; omega) (by rw [HQF.out]; exact HFB.out.1) (by rw [HQF.out]; exact HFB.out.2)).mono ?_
    rintro e w6 ⟨rfl, t⟩
    rw [crash_safe HQ.out.2.1] at t
    obtain ⟨q', hq'⟩ : ∃ q' : Pt, q' = { q with fd := 0, fk := 0, ft := 0, done := 0 } := ⟨_, rfl⟩
    have HQ2 := Lib.hid (show StruckOk b es start S now n q' ∧ q'.done = 0 from by rw [hq']; exact ⟨HQ.out, rfl⟩)
    rw [show ({ q with a := q.a, fd := 0, fk := 0, ft := 0, done := 0 } : Pt) = q' from by rw [hq']] at t
    have T6 := Lib.hid t
    clear t hq' T5 HQ HQF HM2
    have HRL := Lib.hid (rebuild_any (w := w6) (start := start) (es := es) (z := z) (T6.out.get (i := 1) rfl) (Int.le_refl _) (by show (0 : Int) ≤ _; decide) (by show b.length ≤ _; rw [← HM.out]; omega) (Nat.le_refl _) (Int.le_refl _) (by show (0 : Int) ≤ _; decide) HST.out.1 HST.out.2 HZ.out.1 HZ.out.2.1 HZ.out.2.2)
    go_wp2_with fail
    refine HRL.out.mono ?_
    rintro e w7 ⟨S1, now1, n1, hg1, ⟨_, s1, rfl, hok1, hv1, t⟩ | ⟨_, ha, _⟩⟩
    rotate_left
    · cases ha
    obtain ⟨rfl, rfl, rfl⟩ := hg1.one HG.out
    have HK1 := Lib.hid (And.intro hok1 hv1)
    obtain ⟨qL, hqL⟩ : ∃ q, q = (loadPt gad Ad cd 0 b).keep (framesF (es.take n1)).length := ⟨_, rfl⟩
    obtain ⟨k, hkk⟩ : ∃ k, k = (framesF (es.take n1)).length := ⟨_, rfl⟩
    have HKK := Lib.hid hkk
    have HQL := Lib.hid (show qL.a.base = 0 ∧ qL.a.safe = qL.a.l.length ∧ qL.a.l.length = k from by
      obtain ⟨k1, k2, k3, _, _⟩ := keepG (p := loadPt gad Ad cd 0 b) n1 HZ.out.1 rfl
      rw [hqL, hkk]
      exact ⟨k2, by rw [k3, k1], by rw [k1]⟩)
    have hkM : k ≤ M := by
      have h1 := congrArg List.length HZ.out.1
      rw [frames_take es n1, List.length_append, List.length_append, ← hkk, ← HM.out] at h1
      omega
    rw [← hqL] at t
    have T7 := Lib.hid (show Turn (Item.all []) wi (Item.all [lg gl g gp false q', lg gld gd gpd false qL, s1.item]) w7 from by
      have t1 := (T6.out.step (i := 1) rfl t).by_ 3 rfl [1, 0, 2] (by decide)
      have t2 := (t1.sameR same_flat).by_ 4 rfl [2, 0, 1, 3] (by decide)
      exact t2.sub (M := [_, _, _]) (List.Sublist.cons_cons _ (List.Sublist.cons_cons _ (List.Sublist.cons_cons _ (List.nil_sublist _)))))
    obtain ⟨⟨hq1, hq2, hq3, es', z', hq4, hq5, hq6, hq7, hq8⟩, hq9⟩ := HQ2.out
    have HRS := Lib.hid (rebuild_any (w := w7) (start := start) (es := es') (z := z') (T7.out.get (i := 0) rfl) (by rw [hq1]; exact Int.le_refl _) (by rw [hq1]; decide) (by have := HM.out; omega) (by rw [hq2]; exact Nat.le_refl _) (by rw [hq9]; exact Int.le_refl _) (by rw [hq9]; decide) HST.out.1 HST.out.2 hq4 hq5 hq6)
    have HQ8 := Lib.hid (And.intro hq4 (And.intro hq2 (And.intro hq1 (And.intro hq7 hq8))))
    clear hg1 hok1 hv1 hqL hkk t HRL T6 hq1 hq2 hq3 hq4 hq5 hq6 hq7 hq8 hq9 HQ2
    go_wp2_with fail
    refine HRS.out.mono ?_
    rintro e w8 ⟨S2, now2, n2, hg2, ⟨_, s2, rfl, hok2, hv2, t⟩ | ⟨_, ha, _⟩⟩
    rotate_left
    · cases ha
    obtain ⟨rfl, rfl, rfl⟩ := hg2.one HQ8.out.2.2.2.1
    have HK2 := Lib.hid (And.intro hok2 hv2)
    obtain ⟨qS, hqS⟩ : ∃ q, q = q'.keep (framesF (es'.take n2)).length := ⟨_, rfl⟩
    have HQS := Lib.hid (show qS.a.base = 0 ∧ qS.a.safe = qS.a.l.length ∧ qS.a.l.length = k from by
      obtain ⟨k1, k2, k3, _, _⟩ := keepG (p := q') n2 HQ8.out.1 HQ8.out.2.1
      rw [hqS, HKK.out, ← HQ8.out.2.2.2.2]
      exact ⟨k2.trans HQ8.out.2.2.1, by rw [k3, k1], by rw [k1]⟩)
    rw [← hqS] at t
    have T8 := Lib.hid (show Turn (Item.all []) wi (Item.all [lg gl g gp false qS, lg gld gd gpd false qL, s1.item, s2.item]) w8 from by
      have t1 := (T7.out.step (i := 0) rfl t).sameR same_flat
      exact t1.by_ 4 rfl [0, 2, 3, 1] (by decide))
    have HOK := Lib.hid (show PsOk S2 now2 ∧ totP S2 ≤ n2 from ⟨HG.out.1.ok.1, HG.out.1.ok.2.1⟩)
    have hnM : n2 ≤ M := by
      have h1 := framesF_ge es
      have h2 := HG.out.1.le
      have h3 := congrArg List.length HZ.out.1
      rw [List.length_append, ← HM.out] at h3
      omega
    have HB1 := Lib.hid (lBounds_any (w := w8) (d := ⟨gd, gpd, false, [qL]⟩) 0 (p := qL) (T8.out.get (i := 1) rfl) (by simp) rfl (by rw [HQL.out.1]; exact Int.le_refl _) (by rw [HQL.out.1]; decide) (by rw [HQL.out.2.2]; omega) (by rw [HQL.out.2.1]; exact Nat.le_refl _))
    rw [HQL.out.1, HQL.out.2.1, HQL.out.2.2, Int.zero_add] at HB1
    clear hg2 hok2 hv2 hqS t HRS T7 HQ8
    go_wp2_with fail
    refine HB1.out.mono ?_
    rintro e w9 ⟨rfl, hb⟩
    have T9 := Lib.hid (T8.out.go hb)
    have HB2 := Lib.hid (lBounds_any (w := w9) (d := ⟨g, gp, false, [qS]⟩) 0 (p := qS) (T9.out.get (i := 0) rfl) (by simp) rfl (by rw [HQS.out.1]; exact Int.le_refl _) (by rw [HQS.out.1]; decide) (by rw [HQS.out.2.2]; omega) (by rw [HQS.out.2.1]; exact Nat.le_refl _))
    rw [HQS.out.1, HQS.out.2.1, HQS.out.2.2, Int.zero_add] at HB2
    clear hb HB1 T8
    go_wp2_with fail
    refine HB2.out.mono ?_
    rintro e wa ⟨rfl, hb⟩
    have Ta := Lib.hid (T9.out.go hb)
    have HV1 := Lib.hid (rbVers_any (w := wa) (T9.out.go hb |>.get (i := 2) rfl) HK1.out.1 (by rw [HK1.out.2]; exact HOK.out.1) (by omega) (by rw [HK1.out.2]; have := HOK.out.2; omega))
    rw [HK1.out.2] at HV1
    obtain ⟨nv, hnv⟩ : ∃ x, x = (versF S2).length := ⟨_, rfl⟩
    have HNV := Lib.hid hnv
    have hnvb : nv ≤ M := by rw [hnv, totP_vers]; have := HOK.out.2; omega
    rw [← hnv] at HV1
    clear hb HB2 T9 hnv
    go_wp2_with fail
    refine HV1.out.mono ?_
    rintro e wb ⟨Aa, ca, rfl, hsa, hb⟩
    have Tb := Lib.hid (Ta.out.go hb)
    have HSA := Lib.hid hsa
    have HV2 := Lib.hid (rbVers_any (w := wb) (Tb.out.get (i := 3) rfl) HK2.out.1 (by rw [HK2.out.2]; exact HOK.out.1) (by omega) (by rw [HK2.out.2]; have := HOK.out.2; omega))
    rw [HK2.out.2, ← HNV.out] at HV2
    clear hsa hb HV1 Ta
    go_wp2_with fail
    refine HV2.out.mono ?_
    rintro e wc ⟨Ab, cb, rfl, hsb, hb⟩
    have Tc := Lib.hid (Tb.out.go hb)
    have HAL := Lib.hid (alike_any (w := wc) (c := ca) (c' := cb) (l := versF S2) ((HSA.out.below hb).more hb.size) hsb (by rw [← HNV.out]; omega))
    rw [← HNV.out] at HAL
    clear hsb hb HV2 HSA Tb
    go_wp2_with fail
    refine HAL.out.mono ?_
    rintro e wd ⟨rfl, hb⟩
    have HR := Lib.hid (show True_ wi (.returned (.bool true)) wd from ⟨rfl, (Tc.out.go hb).free⟩)
    clear hb HAL Tc
    go_wp2
    go_ret
    exact HR.out
end Go.Proofs.YtmnpchncmbnddaaGreat

