/- WalJunk: the walk. -/
import Derived.Test.YtnnladfndmdapaaG18
set_option linter.unusedVariables false
set_option linter.unusedSimpArgs false
namespace Go.Proofs.Ytnnladfndmdapaa
open Go.RowKit

set_option maxRecDepth 100000 in
set_option maxHeartbeats 3200000 in
theorem walJunk_walk {w : World} {A0 A1 A2 : Option Addr} {c0 c1 c2 : Nat} {es bh : List En} {junk : List UInt8} (h0 : kEn.Sl w w.heap.size A0 es) (h1 : BReads w w.heap.size A1 junk) (h2 : kEn.Sl w w.heap.size A2 bh)
    (hk : (kSlice kEn).bulk es + (junk.length + 1) + (kSlice kEn).bulk bh ≤ 1048576) :
    Calls Try.prog 10 #[.slice A0 es.length c0, .slice A1 junk.length c1, .slice A2 bh.length c2] w (True_ w) := by
  have H0 := Lib.hid h0
  have H1 := Lib.hid h1
  have H2 := Lib.hid h2
  have hle := (ens_bulk es).1
  have hlb := (ens_bulk bh).1
  have HS0 := Lib.hid (ens_size (l := es) (by omega))
  have HS2 := Lib.hid (ens_size (l := bh) (by omega))
  have hles : es.length ≤ 1048576 := by omega
  have hlbh : bh.length ≤ 1048576 := by omega
  have hlj : junk.length ≤ 1048576 := by omega
  clear h0 h1 h2 hk hle hlb
  go_enter Try.func10, Try.ntmps10
  go_wp2_with fail
  refine (dNew_any (w := w) 1 (by decide) (by decide)).mono ?_
  rintro e w1 ⟨d, h1, h2, h3, rfl, t1⟩
  obtain ⟨g, gp, ga, rfl⟩ := D_one (w := w) (w' := w) h1 h2 h3
  have T1 := Lib.hid t1
  clear h1 h2 h3 t1
  go_wp2_with fail
  refine walFixed_any.mono ?_
  rintro e w2 ⟨rfl, hb⟩
  have T2 := Lib.hid (T1.out.go hb)
  clear T1 hb
  go_wp2_with fail
  refine (lOpen_any T2.out.p (by simp) 0 rfl (by simp [freshPt]) (by simp [freshPt]) (by simp [freshPt]) (by simp [freshPt])).mono ?_
  rintro e w3 ⟨gl, hgl, rfl, hk, hb⟩
  have T3 := Lib.hid (show Turn (Item.all []) w (Item.all [lg gl g gp false (freshPt ga)]) w3 from (T2.out.one.more hb (y := Item.blk gl 119 (logCells ⟨g, gp, false, [freshPt ga]⟩ 0)) hk (fun k e => by cases e; exact hgl)).one)
  clear hk hb T2 hgl
  go_wp2_with fail
  have W4 := Lib.hid (fit_any (c := c0) T3.out.k.size (H0.out.below T3.out.free) HS0.out (by omega))
  refine W4.out.mono ?_
  rintro e w4 ⟨ts, A4, c4, hts, rfl, t4, hv4⟩
  have T4 := Lib.hid (T3.out.join t4)
  obtain ⟨F, hF⟩ : ∃ F, F = fitF es := ⟨_, rfl⟩
  have HM := Lib.hid (show ∀ e ∈ F, e.may from by rw [hF]; exact fitF_may)
  have hFl : F.length ≤ es.length := by rw [hF]; exact fitF_len es
  rw [← hF] at T4 hts ⊢
  have HTS := Lib.hid hts
  have HV := Lib.hid (told_go hv4 (t4.free.mono T3.out.k.size))
  clear hF W4 hts t4 hv4 T3
  go_wp2_with fail
  have HFr := framesF_len HM.out
  have W5 := Lib.hid (group_ok (c := c4) (es := F) (T4.out.get (i := 0) rfl) (Int.le_refl 0) (show (0 : Int) ≤ _ by decide) (stays_fit T4.out (List.mem_cons_self ..) HTS.out HV.out) HM.out (show 0 + 5009 * F.length ≤ _ by omega))
  refine W5.out.mono ?_
  rintro e w5 ⟨rfl, q, qb, qs, ql, qd, t⟩
  have T5 := Lib.hid (T4.out.step (i := 0) rfl t)
  have HV5 := Lib.hid (told_go HV.out (t.below T4.out.k.size (T4.out.fresh (i := 0) rfl)))
  have HQ := Lib.hid (show q.a.base = 0 ∧ q.a.l = framesF F ∧ q.done = F.length + 1 from ⟨qb, ql, qd.trans (by show (0 : Int) + _ + _ = _; omega)⟩)
  clear W5 T4 qb qs ql qd t HV
  by_cases hj0 : junk.length = 0
  · have HB := Lib.hid T5.out.free
    clear T5 HV5 HQ H0 H1 H2
    go_wp2
    go_ret
    exact ⟨rfl, HB.out⟩
  have hj1 : 0 < junk.length := by omega
  obtain ⟨jb, jo, rfl, hjb, hjc⟩ := (H1.out.below T5.out.free).at_ hj1
  rw [Nat.add_zero] at hjc
  have hjd : ((junk.length : Int) == 0) = false := by rw [beq_eq_false_iff_ne]; omega
  by_cases hj2 : junk[0] = 197
  · have hjn : (((junk[0]).toNat : Int) == 197) = true := by rw [hj2]; rfl
    have HB := Lib.hid T5.out.free
    clear T5 HV5 HQ H0 H1 H2 hj2
    go_wp2
    go_ret
    exact ⟨rfl, HB.out⟩
  have hjn : (((junk[0]).toNat : Int) == 197) = false := by
    rw [beq_eq_false_iff_ne]
    intro h
    exact hj2 (UInt8.toNat_inj.1 (by show _ = 197; omega))
  have HZ := Lib.hid (show ∀ r, NoMark (junk ++ r) from fun r b hb => by
    cases junk with
    | nil => cases hj1
    | cons a s => injection hb with hb; subst hb; exact hj2)
  clear hj2
  go_wp2_with fail
  have W6 := Lib.hid (append_ok (c := c1) (T5.out.get (i := 0) rfl) (by rw [HQ.out.2.2]; omega) (by rw [HQ.out.2.2]; omega) ((H1.out.below T5.out.free).more T5.out.k.size) (by rw [HQ.out.2.1]; omega))
  refine W6.out.mono ?_
  rintro e w6 ⟨rfl, q2, qb, qs, ql, qd, t⟩
  have T6 := Lib.hid (T5.out.step (i := 0) rfl t)
  have HV6 := Lib.hid (told_go HV5.out (t.below T5.out.k.size (T5.out.fresh (i := 0) rfl)))
  have HQ2 := Lib.hid (show q2.a.base = 0 ∧ q2.a.l = framesF F ++ junk ∧ q2.done = F.length + 2 from by
    obtain ⟨h1, h2, h3⟩ := HQ.out
    rw [h2] at ql
    rw [h3] at qd
    rw [h1] at qb
    exact ⟨qb, ql, by omega⟩)
  clear W6 T5 qb qs ql qd t HV5 HQ hjc hjd hjn
  go_wp2_with fail
  have W7 := Lib.hid (fit_any (c := c2) T6.out.k.size (H2.out.below T6.out.free) HS2.out (by omega))
  refine W7.out.mono ?_
  rintro e w7 ⟨us, A7, c7, hus, rfl, t7, hv7⟩
  have T7 := Lib.hid (T6.out.join t7)
  obtain ⟨G, hG⟩ : ∃ G, G = fitF bh := ⟨_, rfl⟩
  have HN := Lib.hid (show ∀ e ∈ G, e.may from by rw [hG]; exact fitF_may)
  have hGl : G.length ≤ bh.length := by rw [hG]; exact fitF_len bh
  rw [← hG] at T7 hus ⊢
  have HUS := Lib.hid hus
  have HV7 := Lib.hid (told_go HV6.out (t7.free.mono T6.out.k.size))
  have HU7 := Lib.hid (told_go hv7 (t7.free.mono T6.out.k.size))
  clear hG W7 hus t7 hv7 T6 HV6
  have HGr := framesF_len HN.out
  have W8 := Lib.hid (group_ok (c := c7) (es := G) (T7.out.get (i := 0) rfl) (by rw [HQ2.out.2.2]; omega) (by rw [HQ2.out.2.2]; omega) (stays_fit T7.out (List.mem_cons_of_mem _ (List.mem_cons_self ..)) HUS.out HU7.out) HN.out (by rw [HQ2.out.2.1, List.length_append]; omega))
  go_wp2_with fail
  refine W8.out.mono ?_
  rintro e w8 ⟨rfl, q3, qb, qs, ql, qd, t⟩
  have T8 := Lib.hid (T7.out.step (i := 0) rfl t)
  have HV8 := Lib.hid (told_go HV7.out (t.below T7.out.k.size (T7.out.fresh (i := 0) rfl)))
  have HQ3 := Lib.hid (show q3.a.base = 0 ∧ q3.a.l = framesF F ++ (junk ++ framesF G) ∧ q3.a.safe ≤ q3.a.l.length ∧ q3.a.l.length ≤ 1099511627776 from by
    obtain ⟨h1, h2, h3⟩ := HQ2.out
    rw [h2, List.append_assoc] at ql qs
    rw [h1] at qb
    refine ⟨qb, ql, by rw [qs, ql]; exact Nat.le_refl _, by rw [ql, List.length_append, List.length_append]; omega⟩)
  clear W8 T7 qb qs ql qd t HV7 HU7 HQ2 HUS
  go_wp2_with fail
  have W9 := Lib.hid (entries_ok (T8.out.get (i := 0) rfl) (by rw [HQ3.out.1]; decide) (by rw [HQ3.out.1]; decide) HQ3.out.2.2.2 HQ3.out.2.2.1 HQ3.out.2.1 HM.out (HZ.out _))
  refine W9.out.mono ?_
  rintro e w9 ⟨vs, A9, A10, c9, c10, hvs, rfl, t9⟩
  have T9 := Lib.hid (T8.out.join t9)
  have SA := Lib.hid (sl_ents t9.p (List.mem_cons_self ..) (fun i hi => List.mem_cons_of_mem _ (List.mem_cons_of_mem _ hi)) hvs HM.out)
  have SB := Lib.hid (sl_fit T9.out.k.size (T9.out.get (i := 1) rfl) HTS.out (told_go HV8.out (t9.free.mono T8.out.k.size)))
  clear W9 hvs t9 T8 HV8
  go_wp2_with fail
  refine (Alike_true (c := c9) (c' := c4) SA.out SB.out (by omega)).mono ?_
  rintro e w10 ⟨rfl, hb⟩
  have HB := Lib.hid (T9.out.go hb).free
  clear hb SA SB T9
  go_wp2
  go_ret
  exact ⟨rfl, HB.out⟩
end Go.Proofs.Ytnnladfndmdapaa
