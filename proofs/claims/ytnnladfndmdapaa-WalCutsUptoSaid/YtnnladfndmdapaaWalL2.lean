/- WalCuts: the walk (printed by a program of this claim's own). -/
import Derived.Test.YtnnladfndmdapaaG18
set_option linter.unusedVariables false
set_option linter.unusedSimpArgs false
namespace Go.Proofs.Ytnnladfndmdapaa
open Go.RowKit

set_option maxRecDepth 100000 in
set_option maxHeartbeats 6400000 in
theorem walCuts_walk {w : World} {A0 : Option Addr} {c0 : Nat} {es : List En} (h0 : kEn.Sl w w.heap.size A0 es) (at_ : Int) (ha0 : IntKind.min .i64 ≤ at_) (ha1 : at_ ≤ IntKind.max .i64) (trim : Bool)
    (hk : (kSlice kEn).bulk es + 1 + 1 ≤ 1048576) :
    Calls Try.prog 14 #[.slice A0 es.length c0, .int .i64 at_, .bool trim] w (True_ w) := by
  have H0 := Lib.hid h0
  have hle := (ens_bulk es).1
  have HS0 := Lib.hid (ens_size (l := es) (by omega))
  have hles : es.length ≤ 1048576 := by omega
  clear h0 hk hle
  have hat0 : -9223372036854775808 ≤ at_ := ha0
  have hat1 : at_ ≤ 9223372036854775807 := ha1
  clear ha0 ha1
  go_enter Try.func14, Try.ntmps14
  go_wp2_with fail
  refine (dNew_any (w := w) 1 (by decide) (by decide)).mono ?_
  rintro e w1 ⟨d, h1, h2, h3, rfl, t1⟩
  obtain ⟨g, gp, ga, rfl⟩ := D_one (w := w) (w' := w) h1 h2 h3
  have T1 := Lib.hid t1
  clear h1 h2 h3 t1
  go_wp2_with fail
  refine walFixed_any.mono ?_
  rintro e w2 ⟨rfl, hb⟩
  have T2 := Lib.hid (T1.out.go hb)
  clear T1 hb
  go_wp2_with fail
  refine (lOpen_any T2.out.p (by simp) 0 rfl (by simp [freshPt]) (by simp [freshPt]) (by simp [freshPt]) (by simp [freshPt])).mono ?_
  rintro e w3 ⟨gl, hgl, rfl, hk, hb⟩
  have T3 := Lib.hid (show Turn (Item.all []) w (Item.all [lg gl g gp false (freshPt ga)]) w3 from (T2.out.one.more hb (y := Item.blk gl 119 (logCells ⟨g, gp, false, [freshPt ga]⟩ 0)) hk (fun k e => by cases e; exact hgl)).one)
  clear hk hb T2 hgl
  go_wp2_with fail
  have W4 := Lib.hid (fit_any (c := c0) T3.out.k.size (H0.out.below T3.out.free) HS0.out (by omega))
  refine W4.out.mono ?_
  rintro e w4 ⟨ts, A4, c4, hts, rfl, t4, hv4⟩
  have T4 := Lib.hid (T3.out.join t4)
  obtain ⟨F, hF⟩ : ∃ F, F = fitF es := ⟨_, rfl⟩
  have HM := Lib.hid (show ∀ e ∈ F, e.may from by rw [hF]; exact fitF_may)
  have hFl : F.length ≤ es.length := by rw [hF]; exact fitF_len es
  rw [← hF] at T4 hts ⊢
  have HTS := Lib.hid hts
  have HV := Lib.hid (told_go hv4 (t4.free.mono T3.out.k.size))
  clear hF W4 hts t4 hv4 T3
  go_wp2_with fail
  have HFr := framesF_len HM.out
  have W5 := Lib.hid (group_ok (c := c4) (es := F) (T4.out.get (i := 0) rfl) (Int.le_refl 0) (show (0 : Int) ≤ _ by decide) (stays_fit T4.out (List.mem_cons_self ..) HTS.out HV.out) HM.out (show 0 + 5009 * F.length ≤ _ by omega))
  refine W5.out.mono ?_
  rintro e w5 ⟨rfl, q, qb, qs, ql, qd, t⟩
  have T5 := Lib.hid (T4.out.step (i := 0) rfl t)
  have HV5 := Lib.hid (told_go HV.out (t.below T4.out.k.size (T4.out.fresh (i := 0) rfl)))
  have HQ := Lib.hid (show q.a.base = 0 ∧ q.a.l = framesF F ∧ q.done = F.length + 1 ∧ q.a.safe = (framesF F).length from ⟨qb, ql, qd.trans (by show (0 : Int) + _ + _ = _; omega), qs⟩)
  clear W5 T4 qb qs ql qd t HV
  go_wp2_with fail
  have W6 := Lib.hid (entries_ok (z := []) (T5.out.get (i := 0) rfl) (by rw [HQ.out.1]; decide) (by rw [HQ.out.1]; decide) (by rw [HQ.out.2.1]; omega) (by rw [HQ.out.2.2.2, HQ.out.2.1]; exact Nat.le_refl _) (by rw [HQ.out.2.1, List.append_nil]) HM.out (fun b h => by cases h))
  refine W6.out.mono ?_
  rintro e w6 ⟨vs, A6, A7, c6, c7, hvs, rfl, t6⟩
  have T6 := Lib.hid (T5.out.join t6)
  have HV6 := Lib.hid (told_go HV5.out (t6.free.mono T5.out.k.size))
  have R6 := Lib.hid (rowI_reads (t6.get (i := 1) rfl) (endsI_len _ _).symm)
  have hc7 : F.length ≤ c7 := R6.out.2
  clear W6 T5 hvs t6 HV5
  by_cases hneg : at_ < 0
  · have HB := Lib.hid T6.out.free
    clear T6 HV6 HQ H0 R6
    go_wp2
    go_ret
    exact ⟨rfl, HB.out⟩
  by_cases hbig : (F.length : Int) ≤ at_
  · have HB := Lib.hid T6.out.free
    clear T6 HV6 HQ H0 R6
    go_wp2
    go_ret
    exact ⟨rfl, HB.out⟩
  obtain ⟨i, hi⟩ : ∃ i : Nat, at_ = i := ⟨at_.toNat, by omega⟩
  subst hi
  have hiF : i < F.length := by omega
  obtain ⟨i1, hi1⟩ : ∃ i1 : Nat, i1 = i + 1 := ⟨_, rfl⟩
  have hi1i : (i : Int) + 1 = (i1 : Int) := by omega
  have hi1F : i1 ≤ F.length := by omega
  obtain ⟨eb, eo, rfl, heb, hec⟩ := R6.out.1.at_ (k := i) (by rw [endsI_len]; exact hiF)
  obtain ⟨k, hk⟩ : ∃ k, k = (framesF (F.take i1)).length := ⟨_, rfl⟩
  have HK := Lib.hid hk
  have hkl : k ≤ (framesF F).length := by rw [hk, framesF_split F i1, List.length_append]; omega
  obtain ⟨X, hX⟩ : ∃ X : Int, X = q.a.base + (k : Int) := ⟨_, rfl⟩
  have hec' : w6.cell? ⟨eb, eo + i, none⟩ = some (.int .i64 X) := by
    rw [hec, hX]
    have h1 := endsI_get q.a.base hiF
    rw [← hi1, ← hk] at h1
    obtain ⟨h2, h3⟩ := List.getElem?_eq_some_iff.1 h1
    rw [h3]
  have HC := Lib.hid (cut_ok (k := k) (T6.out.get (i := 0) rfl) (by rw [HQ.out.2.2.1]; omega) (by rw [HQ.out.2.2.1]; omega) (by rw [HQ.out.2.1]; exact hkl) (by rw [HQ.out.2.2.2, HQ.out.2.1]; exact Nat.le_refl _) (by rw [HQ.out.1]; decide) (by rw [HQ.out.1]; decide) (by rw [HQ.out.2.1]; omega))
  have HT := Lib.hid (trim_ok (k := k) (T6.out.get (i := 0) rfl) (by rw [HQ.out.2.2.1]; omega) (by rw [HQ.out.2.2.1]; omega) (by rw [HQ.out.2.2.2]; exact hkl) (by rw [HQ.out.2.2.2, HQ.out.2.1]; exact Nat.le_refl _) (by rw [HQ.out.1]; decide) (by rw [HQ.out.1]; decide) (by rw [HQ.out.2.1]; omega))
  rw [← hX] at HC HT
  have HX := Lib.hid hX
  clear hec hX hk
  cases trim with
  | true =>
    clear HC
    go_wp2_with fail
    refine HT.out.mono ?_
    rintro e w7 ⟨rfl, q2, qb, qs, ql, qd, t⟩
    have T7 := Lib.hid (T6.out.step (i := 0) rfl t)
    have HV7 := Lib.hid (told_go HV6.out (t.below T6.out.k.size (T6.out.fresh (i := 0) rfl)))
    have HQ2 := Lib.hid (show q2.a.base = q.a.base + ((framesF (F.take i1)).length : Nat) ∧ 0 ≤ q2.a.base ∧ q2.a.base ≤ 4611686018427387904 ∧ q2.a.l = framesF (F.drop i1) ∧ q2.a.safe ≤ q2.a.l.length ∧ q2.a.l.length ≤ 8796093022208 from by
      rw [HQ.out.2.1, framesF_split F i1, HK.out, List.drop_left' rfl] at ql
      rw [HQ.out.2.2.2, framesF_split F i1, List.length_append, HK.out] at qs
      have h1 := HK.out
      have h2 := framesF_split F i1
      have h3 := congrArg List.length h2
      rw [List.length_append] at h3
      refine ⟨by rw [qb, HX.out, HK.out], by rw [qb, HX.out, HQ.out.1]; omega, by rw [qb, HX.out, HQ.out.1]; omega, ql, by rw [qs, ql]; omega, by rw [ql]; omega⟩)
    clear HT T6 HV6 qb qs ql qd t hec'
    go_wp2_with fail
    obtain ⟨D, hD⟩ : ∃ D, D = F.drop i1 := ⟨_, rfl⟩
    obtain ⟨E, hE⟩ : ∃ E, E = (endsI q.a.base F).drop i1 := ⟨_, rfl⟩
    have HDM := Lib.hid (show ∀ e ∈ D, e.may from fun e he => HM.out e (by rw [hD] at he; exact List.mem_of_mem_drop he))
    have W8 := Lib.hid (entries_ok (es := D) (z := []) (T7.out.get (i := 0) rfl) HQ2.out.2.1 HQ2.out.2.2.1 HQ2.out.2.2.2.2.2 HQ2.out.2.2.2.2.1 (by rw [HQ2.out.2.2.2.1, List.append_nil, hD]) HDM.out (fun b h => by cases h))
    refine W8.out.mono ?_
    rintro e w8 ⟨us, A8, A9, c8, c9, hus, rfl, t8⟩
    have T8 := Lib.hid (T7.out.join t8)
    have SA := Lib.hid (sl_ents t8.p (List.mem_cons_self ..) (fun i hi => List.mem_cons_of_mem _ (List.mem_cons_of_mem _ hi)) hus HDM.out)
    have SF := Lib.hid (sl_fit T8.out.k.size (T8.out.get (i := 1) rfl) HTS.out (told_go HV7.out (t8.free.mono T7.out.k.size)))
    have RA := Lib.hid (show IReads w8 w8.heap.size A9 E ∧ D.length ≤ c9 from by
      have h1 := rowI_reads (t8.get (i := 1) rfl) (endsI_len _ _).symm
      have h2 : endsI q2.a.base D = E := by rw [hD, hE]; rw [HQ2.out.1]; exact endsI_drop _ _ hi1F
      rw [h2] at h1; exact h1)
    have RF := Lib.hid (rowI_reads (T8.out.get (i := 3) rfl) (endsI_len _ _).symm)
    have HEL := Lib.hid (show E.length = D.length from by rw [hE, hD]; simp [endsI_len])
    have HDL := Lib.hid (show F.length - i1 = D.length from by rw [hD]; simp [hi1F])
    have hDle : D.length ≤ F.length := by rw [hD]; simp; try omega
    have hc4 : F.length ≤ c4 := by
      obtain ⟨A1, c1, e, hc, _⟩ := own_slice (T8.out.get (i := 1) rfl)
      injection e with _ _ e2
      omega
    have HBW := Lib.hid T8.out.free
    have HD := Lib.hid hD
    have HE := Lib.hid hE
    have hwi : IntKind.i64.wrap (i1 : Int) = (i1 : Int) := by rw [IntKind.wrap_i64]; omega
    have hi10 : (0 : Int) ≤ (i1 : Int) := by omega
    have hi1Fi : (i1 : Int) ≤ (F.length : Int) := by omega
    have hi1c4 : (i1 : Int) ≤ (c4 : Int) := by omega
    have hi1c7 : (i1 : Int) ≤ (c7 : Int) := by omega
    have hFc4 : (F.length : Int) ≤ (c4 : Int) := by omega
    have hFc7 : (F.length : Int) ≤ (c7 : Int) := by omega
    have HI1 := Lib.hid hi1
    clear W8 hus t8 T7 HV7 hD hE R6 HQ HQ2 T8 hi1
    by_cases hc4i : c4 = i1
    · by_cases hc7i : c7 = i1
      · go_wp2_with fail
        rw [HDL.out]
        refine (Alike_true SA.out (show kEn.Sl w8 w8.heap.size _ D from by have h0 : D = [] := List.eq_nil_of_length_eq_zero (by have := HDL.out; omega); rw [h0]; exact sl_nil) (by omega)).mono ?_
        rintro e w9 ⟨rfl, hb⟩
        have HB := Lib.hid hb
        have RA9 := Lib.hid ((RA.out.1.below hb).more hb.size)
        have RF9 := Lib.hid ((RF.out.1.below hb).more hb.size)
        clear hb SA SF RA RF
        go_wp2_with fail
        rw [HDL.out]
        have WE := fun (A : Option Addr) (ca cb : Nat) (h : IReads w9 w9.heap.size A E) => equalI_any (c := ca) (c' := cb) RA9.out h (by rw [HEL.out]; omega)
        rw [HEL.out] at WE
        refine (WE _ _ _ (by have h0 : E = [] := List.eq_nil_of_length_eq_zero (by have := HDL.out; have := HEL.out; omega); rw [h0]; exact ir_nil)).mono ?_
        rintro e w10 ⟨rfl, m, rfl⟩
        rw [decide_eq_true rfl]
        have HBF := Lib.hid (HBW.out.trans (HB.out.mono HBW.out.size))
        clear WE RA9 RF9 HB HBW
        go_wp2
        go_ret
        exact ⟨rfl, HBF.out.os, HBF.out.tape, HBF.out.output, HBF.out.size, HBF.out.block⟩
      · go_wp2_with fail
        rw [HDL.out]
        refine (Alike_true SA.out (show kEn.Sl w8 w8.heap.size _ D from by have h0 : D = [] := List.eq_nil_of_length_eq_zero (by have := HDL.out; omega); rw [h0]; exact sl_nil) (by omega)).mono ?_
        rintro e w9 ⟨rfl, hb⟩
        have HB := Lib.hid hb
        have RA9 := Lib.hid ((RA.out.1.below hb).more hb.size)
        have RF9 := Lib.hid ((RF.out.1.below hb).more hb.size)
        clear hb SA SF RA RF
        go_wp2_with fail
        rw [HDL.out]
        have WE := fun (A : Option Addr) (ca cb : Nat) (h : IReads w9 w9.heap.size A E) => equalI_any (c := ca) (c' := cb) RA9.out h (by rw [HEL.out]; omega)
        rw [HEL.out] at WE
        refine (WE _ _ _ (by rw [HE.out]; first | exact ir_drop RF9.out | (have h1 := ir_drop (k := i1) RF9.out; rw [Option.map_some, add_lit0] at h1; exact h1))).mono ?_
        rintro e w10 ⟨rfl, m, rfl⟩
        rw [decide_eq_true rfl]
        have HBF := Lib.hid (HBW.out.trans (HB.out.mono HBW.out.size))
        clear WE RA9 RF9 HB HBW
        go_wp2
        go_ret
        exact ⟨rfl, HBF.out.os, HBF.out.tape, HBF.out.output, HBF.out.size, HBF.out.block⟩
    · by_cases hc7i : c7 = i1
      · go_wp2_with fail
        rw [HDL.out]
        refine (Alike_true SA.out (show kEn.Sl w8 w8.heap.size _ D from by rw [HD.out]; exact sl_drop SF.out) (by omega)).mono ?_
        rintro e w9 ⟨rfl, hb⟩
        have HB := Lib.hid hb
        have RA9 := Lib.hid ((RA.out.1.below hb).more hb.size)
        have RF9 := Lib.hid ((RF.out.1.below hb).more hb.size)
        clear hb SA SF RA RF
        go_wp2_with fail
        rw [HDL.out]
        have WE := fun (A : Option Addr) (ca cb : Nat) (h : IReads w9 w9.heap.size A E) => equalI_any (c := ca) (c' := cb) RA9.out h (by rw [HEL.out]; omega)
        rw [HEL.out] at WE
        refine (WE _ _ _ (by have h0 : E = [] := List.eq_nil_of_length_eq_zero (by have := HDL.out; have := HEL.out; omega); rw [h0]; exact ir_nil)).mono ?_
        rintro e w10 ⟨rfl, m, rfl⟩
        rw [decide_eq_true rfl]
        have HBF := Lib.hid (HBW.out.trans (HB.out.mono HBW.out.size))
        clear WE RA9 RF9 HB HBW
        go_wp2
        go_ret
        exact ⟨rfl, HBF.out.os, HBF.out.tape, HBF.out.output, HBF.out.size, HBF.out.block⟩
      · go_wp2_with fail
        rw [HDL.out]
        refine (Alike_true SA.out (show kEn.Sl w8 w8.heap.size _ D from by rw [HD.out]; exact sl_drop SF.out) (by omega)).mono ?_
        rintro e w9 ⟨rfl, hb⟩
        have HB := Lib.hid hb
        have RA9 := Lib.hid ((RA.out.1.below hb).more hb.size)
        have RF9 := Lib.hid ((RF.out.1.below hb).more hb.size)
        clear hb SA SF RA RF
        go_wp2_with fail
        rw [HDL.out]
        have WE := fun (A : Option Addr) (ca cb : Nat) (h : IReads w9 w9.heap.size A E) => equalI_any (c := ca) (c' := cb) RA9.out h (by rw [HEL.out]; omega)
        rw [HEL.out] at WE
        refine (WE _ _ _ (by rw [HE.out]; first | exact ir_drop RF9.out | (have h1 := ir_drop (k := i1) RF9.out; rw [Option.map_some, add_lit0] at h1; exact h1))).mono ?_
        rintro e w10 ⟨rfl, m, rfl⟩
        rw [decide_eq_true rfl]
        have HBF := Lib.hid (HBW.out.trans (HB.out.mono HBW.out.size))
        clear WE RA9 RF9 HB HBW
        go_wp2
        go_ret
        exact ⟨rfl, HBF.out.os, HBF.out.tape, HBF.out.output, HBF.out.size, HBF.out.block⟩
  | false =>
    clear HT
    go_wp2_with fail
    refine HC.out.mono ?_
    rintro e w7 ⟨rfl, q2, qb, qs, ql, qd, t⟩
    have T7 := Lib.hid (T6.out.step (i := 0) rfl t)
    have HV7 := Lib.hid (told_go HV6.out (t.below T6.out.k.size (T6.out.fresh (i := 0) rfl)))
    have HQ2 := Lib.hid (show endsI q2.a.base (F.take i1) = (endsI q.a.base F).take i1 ∧ 0 ≤ q2.a.base ∧ q2.a.base ≤ 4611686018427387904 ∧ q2.a.l = framesF (F.take i1) ∧ q2.a.safe ≤ q2.a.l.length ∧ q2.a.l.length ≤ 8796093022208 from by
      rw [HQ.out.2.1, framesF_split F i1, HK.out, List.take_left' rfl] at ql
      rw [HK.out] at qs
      have h1 := HK.out
      refine ⟨by rw [qb]; exact endsI_take _ _ _, by rw [qb, HQ.out.1]; omega, by rw [qb, HQ.out.1]; omega, ql, by rw [qs, ql]; omega, by rw [ql]; omega⟩)
    clear HC T6 HV6 qb qs ql qd t hec'
    go_wp2_with fail
    obtain ⟨D, hD⟩ : ∃ D, D = F.take i1 := ⟨_, rfl⟩
    obtain ⟨E, hE⟩ : ∃ E, E = (endsI q.a.base F).take i1 := ⟨_, rfl⟩
    have HDM := Lib.hid (show ∀ e ∈ D, e.may from fun e he => HM.out e (by rw [hD] at he; exact List.mem_of_mem_take he))
    have W8 := Lib.hid (entries_ok (es := D) (z := []) (T7.out.get (i := 0) rfl) HQ2.out.2.1 HQ2.out.2.2.1 HQ2.out.2.2.2.2.2 HQ2.out.2.2.2.2.1 (by rw [HQ2.out.2.2.2.1, List.append_nil, hD]) HDM.out (fun b h => by cases h))
    refine W8.out.mono ?_
    rintro e w8 ⟨us, A8, A9, c8, c9, hus, rfl, t8⟩
    have T8 := Lib.hid (T7.out.join t8)
    have SA := Lib.hid (sl_ents t8.p (List.mem_cons_self ..) (fun i hi => List.mem_cons_of_mem _ (List.mem_cons_of_mem _ hi)) hus HDM.out)
    have SF := Lib.hid (sl_fit T8.out.k.size (T8.out.get (i := 1) rfl) HTS.out (told_go HV7.out (t8.free.mono T7.out.k.size)))
    have RA := Lib.hid (show IReads w8 w8.heap.size A9 E ∧ D.length ≤ c9 from by
      have h1 := rowI_reads (t8.get (i := 1) rfl) (endsI_len _ _).symm
      have h2 : endsI q2.a.base D = E := by rw [hD, hE]; exact HQ2.out.1
      rw [h2] at h1; exact h1)
    have RF := Lib.hid (rowI_reads (T8.out.get (i := 3) rfl) (endsI_len _ _).symm)
    have HEL := Lib.hid (show E.length = D.length from by rw [hE, hD]; simp [endsI_len])
    have HDL := Lib.hid (show i1 = D.length from by rw [hD]; simp [hi1F])
    have hDle : D.length ≤ F.length := by rw [hD]; simp; try omega
    have hc4 : F.length ≤ c4 := by
      obtain ⟨A1, c1, e, hc, _⟩ := own_slice (T8.out.get (i := 1) rfl)
      injection e with _ _ e2
      omega
    have HBW := Lib.hid T8.out.free
    have HD := Lib.hid hD
    have HE := Lib.hid hE
    have hwi : IntKind.i64.wrap (i1 : Int) = (i1 : Int) := by rw [IntKind.wrap_i64]; omega
    have hi10 : (0 : Int) ≤ (i1 : Int) := by omega
    have hi1Fi : (i1 : Int) ≤ (F.length : Int) := by omega
    have hi1c4 : (i1 : Int) ≤ (c4 : Int) := by omega
    have hi1c7 : (i1 : Int) ≤ (c7 : Int) := by omega
    have hFc4 : (F.length : Int) ≤ (c4 : Int) := by omega
    have hFc7 : (F.length : Int) ≤ (c7 : Int) := by omega
    have HI1 := Lib.hid hi1
    clear W8 hus t8 T7 HV7 hD hE R6 HQ HQ2 T8 hi1
    go_wp2_with fail
    rw [HDL.out]
    refine (Alike_true SA.out (show kEn.Sl w8 w8.heap.size _ D from by rw [HD.out]; exact sl_take SF.out) (by omega)).mono ?_
    rintro e w9 ⟨rfl, hb⟩
    have HB := Lib.hid hb
    have RA9 := Lib.hid ((RA.out.1.below hb).more hb.size)
    have RF9 := Lib.hid ((RF.out.1.below hb).more hb.size)
    clear hb SA SF RA RF
    go_wp2_with fail
    rw [HDL.out]
    have WE := fun (A : Option Addr) (ca cb : Nat) (h : IReads w9 w9.heap.size A E) => equalI_any (c := ca) (c' := cb) RA9.out h (by rw [HEL.out]; omega)
    rw [HEL.out] at WE
    refine (WE _ _ _ (by rw [HE.out]; exact ir_take RF9.out)).mono ?_
    rintro e w10 ⟨rfl, m, rfl⟩
    rw [decide_eq_true rfl]
    have HBF := Lib.hid (HBW.out.trans (HB.out.mono HBW.out.size))
    clear WE RA9 RF9 HB HBW
    go_wp2
    go_ret
    exact ⟨rfl, HBF.out.os, HBF.out.tape, HBF.out.output, HBF.out.size, HBF.out.block⟩
end Go.Proofs.Ytnnladfndmdapaa
