/- Laws of layer 20: every Image, of a store that is not there too: the law's walk. -/
import Derived.Test.YtoecgkdipgaaeaaG28
import Derived.Test.YtoecgkdipgaaeaaG23
import Derived.Test.YtoecgkdipgaaeaaG24
set_option linter.all false
set_option linter.unusedVariables false
set_option linter.unusedSimpArgs false
set_option linter.unnecessarySimpa false
namespace Go.Proofs.Ytoecgkdipgaaeaa
open Go.RowKit

theorem sl_toldI {w : World} {A : Option Addr} {c n : Nat} {ts : List Told} (h : (Item.rowT 31 6 (.slice A n c) n (toldCells ts)).P w) (hn : n = ts.length) (hr : ∀ i ∈ toldRows ts, i.P w) (hm : ∀ e ∈ ts.map Told.x, e.ints) : kEn.Sl w w.heap.size A (ts.map Told.x) :=
  sl_of_row h hn (fun k hk => Item.lt _ h hk) (fun t ht => by
    have ho : BOwns w 0 (.slice t.A t.x.value.length t.c) t.x.value := hr _ (List.mem_map.2 ⟨t, ht, rfl⟩)
    obtain ⟨A1, c1, e, hc, hv⟩ := BOwns.slice ho
    injection e with e1 _ e2
    subst e1; subst e2
    exact ⟨hm _ (List.mem_map.2 ⟨t, ht, rfl⟩), hv, hc⟩)
theorem imgF_ints {S : PS} {top st : Int} (h : PsOk S top) (h0 : -9223372036854775808 ≤ st) (h1 : st ≤ 9223372036854775807) (hl : totP S ≤ 2147483647) : ∀ e ∈ imgF S st, e.ints := fun e he => by
  have hn : ((versF S).length : Int) ≤ 2147483647 := by rw [totP_vers]; omega
  unfold imgF at he
  rcases List.mem_cons.1 he with rfl | he
  · exact ⟨⟨by show (-9223372036854775808 : Int) ≤ 4; decide, by show (4 : Int) ≤ 9223372036854775807; decide⟩, ⟨h0, h1⟩, ⟨by show (-9223372036854775808 : Int) ≤ ((versF S).length : Int); omega, by show ((versF S).length : Int) ≤ 9223372036854775807; omega⟩⟩
  · rcases List.mem_append.1 he with he | he
    · obtain ⟨v, hv, rfl⟩ := List.mem_map.1 he
      exact may_ints (chk_may' (h.vn hv).1)
    · rw [List.mem_singleton.1 he]
      exact ⟨⟨by show (-9223372036854775808 : Int) ≤ 6; decide, by show (6 : Int) ≤ 9223372036854775807; decide⟩, ⟨h0, h1⟩, ⟨by show (-9223372036854775808 : Int) ≤ ((versF S).length : Int); omega, by show ((versF S).length : Int) ≤ 9223372036854775807; omega⟩⟩
where
  chk_may' {e : En} (h : e.chk = 0) : e.may := by
    unfold En.chk at h
    by_cases hm : e.may
    · exact hm
    · rw [if_neg hm] at h; cases h
theorem img_sl {a : Item} {w w' : World} {S : PS} {top st : Int} {ts : List Told} {A : Option Addr} {n c : Nat} (h : PsOk S top) (h0 : -9223372036854775808 ≤ st ∧ st ≤ 9223372036854775807) (hl : totP S ≤ 2147483647) (hts : ts.map Told.x = imgF S st) (hn : n = (imgF S st).length) (t : Turn a w (Item.all (Item.rowT 31 6 (.slice A n c) n (toldCells ts) :: toldRows ts)) w') : kEn.Sl w' w'.heap.size A (imgF S st) := by
  have := sl_toldI (t.get (i := 0) rfl) (by rw [hn, ← hts, List.length_map]) (fun i hi => Item.all_get t.p (List.mem_cons_of_mem _ hi)) (by rw [hts]; exact imgF_ints h h0.1 h0.2 hl)
  rwa [hts] at this
def ImIn (w : World) (gs K m c' : Nat) (A' : Option Addr) (wr : World) : Prop :=
  ∃ (s : St) (hs : List Hv), s.gs = gs ∧ s.ok K ∧ RelRS (hs.map Hv.x) s.view ∧ hs.length = m ∧ Turn (Item.all []) w (Item.all [s.item, gV A' m c' hs]) wr
theorem RelRS.ints {R : List Vn} {S : PS} (h : RelRS R S) : ∀ e ∈ R, e.ints := fun e he => by
  have := h.each e he
  exact ⟨by omega, by omega⟩
set_option maxRecDepth 100000 in
set_option maxHeartbeats 12800000 in
theorem rebuildImage_walk {w : World} {A0 : Option Addr} {c0 : Nat} {vs : List Vn} (h0 : kVn.Sl w w.heap.size A0 vs) (st : Int) (hn0 : IntKind.min .i64 ≤ st) (hn1 : st ≤ IntKind.max .i64) (hk : (kSlice kVn).bulk vs + 1 ≤ 1048576) :
    Calls Try.prog 8 #[.slice A0 vs.length c0, .int .i64 st] w (True_ w) := by
  have hbv := vns_bulk vs
  have HKV := Lib.hid (show ∀ v ∈ vs, v.key.size ≤ maxLen ∧ v.value.length ≤ 140737488355328 from fun v hv => by have := hbv.2 v hv; unfold maxLen; omega)
  have HV := Lib.hid h0
  have HST := Lib.hid (show -9223372036854775808 ≤ st ∧ st ≤ 9223372036854775807 from ⟨by simpa [IntKind.min, IntKind.signed, IntKind.bits] using hn0, by simpa [IntKind.max, IntKind.signed, IntKind.bits] using hn1⟩)
  obtain ⟨M, hM⟩ : ∃ M, M = vs.length := ⟨_, rfl⟩
  have HM := Lib.hid hM
  have hMl : M ≤ 1048576 := by have := hbv.1; omega
  rw [← hM]
  clear h0 hn0 hn1 hk hbv hM
  go_enter Try.func8, Try.ntmps8
  go_wp2_with fail
  refine snew_any.mono ?_
  rintro e w2 ⟨gs, gm, rfl, hok, t2⟩
  have T2 := Lib.hid (show ImIn w gs 0 0 0 (some ⟨w.heap.size, 0, none⟩) w2 from ⟨⟨gs, gm, 0, []⟩, [], rfl, hok, RelRS.nil, rfl, by
    have t1 : Turn (Item.all []) w (Item.all [gV (some ⟨w.heap.size, 0, none⟩) 0 0 []]) (w.alloc (.cells #[] 33)) :=
      (Turn.none_ (w := w)).more (y := gV (some ⟨w.heap.size, 0, none⟩) 0 0 []) ((Below.refl _ _).alloc (Nat.le_refl _) _) (show (Item.all [Item.rowT 33 4 (.slice (some ⟨w.heap.size, 0, none⟩) 0 0) 0 []]).P _ from ⟨fun i hi => by obtain rfl := List.mem_singleton.1 hi; exact row_new rfl (by decide), List.pairwise_singleton _ _⟩) (fun k hk => by
        obtain ⟨i, hi, hk⟩ := hk
        obtain rfl := List.mem_singleton.1 hi
        exact own_new hk)
    exact (t1.join t2.one).by_ 2 rfl [1, 0] (by decide)⟩)
  clear hok t2
  go_wp2
  go_loopw [14, 5] (fun t u wr => ∃ (K m c' : Nat) (A' : Option Addr), t = .int .i64 K ∧ u = .slice A' m c' ∧ K ≤ M ∧ m ≤ K ∧ Hid (ImIn w gs K m c' A' wr)) (fun t _ _ => M - (intOf t).toNat)
  case atStart => exact ⟨0, 0, 0, _, rfl, rfl, Nat.zero_le _, Nat.le_refl _, T2⟩
  case round =>
    clear T2
    obtain ⟨K, m, c', A', rfl, rfl, hK, hmK, hH⟩ := hrel
    by_cases hlt : (K : Int) < (M : Int)
    · have hKl : K < vs.length := by have := HM.out; omega
      have hKi : K + 1 ≤ M := by omega
      obtain ⟨s, hs, hg, hok, hrel, hml, hT⟩ := hH.out
      have hbw := hT.free
      obtain ⟨bb, off, Av, cv, hA, hbb, hints, s0, s1, s2, s3, hval, hvc⟩ := vn_at (HV.out.below hbw) hKl
      subst hA
      obtain ⟨x, hx⟩ : ∃ x, x = vs[K] := ⟨_, rfl⟩
      have hxb := HKV.out x (by rw [hx]; exact List.getElem_mem _)
      rw [← hx] at s0 s1 s2 s3 hval
      obtain ⟨key, xs, v, dd⟩ := x
      simp only at s0 s1 s2 s3 hval hxb
      obtain ⟨wa, hwa⟩ : ∃ y, y = wr.alloc (.cells #[.string key, .int .i64 xs, .slice Av v.length cv, .bool dd] 33) := ⟨_, rfl⟩
      have HWA := Lib.hid hwa
      have hba : Below wr.heap.size wr wa := by rw [hwa]; exact (Below.refl _ _).alloc (Nat.le_refl _) _
      have TA := Lib.hid (show Turn (Item.all []) w (Item.all [s.item, gV A' m c' hs, Item.blk wr.heap.size 33 #[.string key, .int .i64 xs, .slice Av v.length cv, .bool dd]]) wa from by
        rw [hwa]
        exact (hT.more (y := Item.blk wr.heap.size 33 #[.string key, .int .i64 xs, .slice Av v.length cv, .bool dd]) ((Below.refl _ _).alloc (Nat.le_refl _) _) (Blk.new _ _ _) (fun k hk => Nat.le_of_eq hk.symm)).by_ 3 rfl [1, 2, 0] (by decide))
      have HVW := Lib.hid (show BReads w w.heap.size Av v from Reads.keep hval (fun p hp => (hbw.cell hp).symm))
      have HRA := Lib.hid (rapply_any (w := wa) (TA.out.get (i := 1) rfl) hml.symm hrel.ints (by omega) (Av := Av) (cv := cv) ⟨key, xs, v, dd⟩ ((HVW.out.below TA.out.free).more TA.out.free.size) hxb.2)
      have HFA := Lib.hid (And.intro hg (And.intro hok (And.intro hrel hml)))
      have HXB := Lib.hid hxb
      have HSW := Lib.hid hbw.size
      rw [show Vn.cells ⟨key, xs, v, dd⟩ Av cv = #[.string key, .int .i64 xs, .slice Av v.length cv, .bool dd] from rfl] at HRA
      have hbr : bb < wr.heap.size := Nat.lt_of_lt_of_le hbb hbw.size
      clear hx hxb hval hvc hints hbb hT hH hbw hg hok hrel hml hba hwa
      go_upto_region 6 with fail
      rw [← HWA.out]
      obtain ⟨gx, hgx⟩ : ∃ g, g = wr.heap.size := ⟨_, rfl⟩
      rw [← hgx] at TA ⊢
      clear HWA hgx s0 s1 s2 s3 hbr
      have q0 := Blk.cell (show Blk wa gx _ #[.string key, .int .i64 xs, .slice Av v.length cv, .bool dd] from TA.out.get (i := 2) rfl) 0
      have q1 := Blk.cell (show Blk wa gx _ #[.string key, .int .i64 xs, .slice Av v.length cv, .bool dd] from TA.out.get (i := 2) rfl) 1
      have q2 := Blk.cell (show Blk wa gx _ #[.string key, .int .i64 xs, .slice Av v.length cv, .bool dd] from TA.out.get (i := 2) rfl) 2
      have q3 := Blk.cell (show Blk wa gx _ #[.string key, .int .i64 xs, .slice Av v.length cv, .bool dd] from TA.out.get (i := 2) rfl) 3
      simp only [List.getElem?_toArray, List.getElem?_cons_zero, List.getElem?_cons_succ] at q0 q1 q2 q3
      go_wp2_with fail
      refine HRA.out.mono ?_
      rintro e wb hpost
      obtain ⟨A9, m9, c9, hs9, R9, rfl, hm9, hl9, hmap9, T9⟩ : ∃ (A9 : Option Addr) (m9 c9 : Nat) (hs9 : List Hv) (R9 : Int), e = .returned (.tuple #[.slice A9 m9 c9, .int .i64 R9]) ∧ m9 ≤ m + 1 ∧ hs9.length = m9 ∧ hs9.map Hv.x = (appRS (hs.map Hv.x) ⟨key, xs, v, dd⟩).1 ∧ Turn (Item.all []) w (Item.all [s.item, gV A9 m9 c9 hs9, Item.blk gx 33 #[.string key, .int .i64 xs, .slice Av v.length cv, .bool dd]]) wb := by
        rcases hpost with ⟨h1, rfl, hb⟩ | ⟨h1, AN, cN, t, ht, rfl, tt⟩
        · exact ⟨A', m, c', hs, _, rfl, Nat.le_succ _, HFA.out.2.2.2, (appRS_1 h1).symm, TA.out.go hb⟩
        · exact ⟨AN, m + 1, cN, hs ++ [t], 0, rfl, Nat.le_refl _, by rw [List.length_append, HFA.out.2.2.2]; rfl, by rw [appRS_0 h1, List.map_append, ← ht]; rfl, TA.out.step (i := 1) rfl tt⟩
      have HR9 := Lib.hid (And.intro hmap9 hl9)
      have TB := Lib.hid T9
      have HAP := Lib.hid (apply_turn (i := 0) TB.out rfl HFA.out.2.1 (by omega) (A := Av) (c := cv) ⟨key, xs, v, dd⟩ ((HVW.out.below TB.out.free).more TB.out.free.size) HXB.out.1 HXB.out.2)
      rw [HFA.out.1, show Vn.cells ⟨key, xs, v, dd⟩ Av cv = #[.string key, .int .i64 xs, .slice Av v.length cv, .bool dd] from rfl] at HAP
      clear hpost hmap9 hl9 T9 q0 q1 q2 q3 HRA TA
      have q0 := Blk.cell (show Blk wb gx _ #[.string key, .int .i64 xs, .slice Av v.length cv, .bool dd] from TB.out.get (i := 2) rfl) 0
      have q1 := Blk.cell (show Blk wb gx _ #[.string key, .int .i64 xs, .slice Av v.length cv, .bool dd] from TB.out.get (i := 2) rfl) 1
      have q2 := Blk.cell (show Blk wb gx _ #[.string key, .int .i64 xs, .slice Av v.length cv, .bool dd] from TB.out.get (i := 2) rfl) 2
      have q3 := Blk.cell (show Blk wb gx _ #[.string key, .int .i64 xs, .slice Av v.length cv, .bool dd] from TB.out.get (i := 2) rfl) 3
      simp only [List.getElem?_toArray, List.getElem?_cons_zero, List.getElem?_cons_succ] at q0 q1 q2 q3
      go_wp2_with fail
      refine HAP.out.mono ?_
      rintro e wc ⟨rfl, s', hg', _, hok', hv', t⟩
      have HRE := Lib.hid (show ImIn w gs (K + 1) m9 c9 A9 wc from ⟨s', hs9, hg', hok', by rw [HR9.out.1, hv']; exact HFA.out.2.2.1.apply, HR9.out.2, t.sub (List.Sublist.cons_cons _ (List.Sublist.cons_cons _ (List.nil_sublist _)))⟩)
      clear hg' hok' hv' t HAP TB q0 q1 q2 q3
      go_wp2
      exact ⟨⟨K + 1, m9, c9, A9, by go_num, rfl, hKi, by omega, HRE⟩, by simp [intOf]; omega⟩
    · obtain rfl : K = M := by omega
      obtain ⟨s, hs, hg, hok, hrel, hml, hT⟩ := hH.out
      have HK := Lib.hid (And.intro hok hrel)
      have T5 := Lib.hid hT
      have HML := Lib.hid hml
      have HTP := Lib.hid (show totP s.view ≤ 1048576 from by rw [← hrel.len, List.length_map, hml]; omega)
      have HIM := Lib.hid (image_any (w := wr) (st := st) (T5.out.get (i := 0) rfl) hok hrel.ok (by omega) (by have := HTP.out; omega))
      rw [hg] at HIM
      clear hg hok hrel hml hT hH
      go_wp2_with fail
      refine HIM.out.mono ?_
      rintro e w6 ⟨ts, A6, n6, c6, hts, hn6, rfl, t⟩
      have T6 := Lib.hid (T5.out.join t)
      have HN6 := Lib.hid hn6
      have hn6b : n6 ≤ 1048578 := by rw [hn6, imgF_len]; have := HTP.out; omega
      have HS6 := Lib.hid (img_sl HK.out.2.ok HST.out (by have := HTP.out; omega) hts hn6 t)
      have HRI := Lib.hid (rimage_any (w := w6) (c := c') (st := st) (hv_sl (T6.out.get (i := 1) rfl) HML.out.symm HK.out.2.ints) (Nat.le_refl _) (by rw [List.length_map, HML.out]; omega) HK.out.2.up (fun v hv => (HK.out.2.each v hv).1) (fun v hv => (HK.out.2.each v hv).2.2))
      rw [List.length_map, HML.out] at HRI
      clear hts hn6 t HIM
      go_wp2_with fail
      refine HRI.out.mono ?_
      rintro e w7 ⟨ts7, A7, n7, c7, hts7, hn7, rfl, t7⟩
      rw [HK.out.2.img] at hts7 hn7
      have HS7 := Lib.hid (img_sl HK.out.2.ok HST.out (by have := HTP.out; omega) hts7 hn7 t7)
      have HEA := Lib.hid (entriesAlike_any (c := c6) (c' := c7) ((HS6.out.below t7.free).more t7.free.size) HS7.out (by rw [← HN6.out]; omega))
      have B7 := Lib.hid (T6.out.free.trans (t7.free.mono T6.out.free.size))
      rw [← hn7] at HEA
      have hn67 : n6 = n7 := HN6.out.trans hn7.symm
      subst hn67
      clear hts7 hn7 t7 HRI HS7
      go_wp2_with fail
      refine HEA.out.mono ?_
      rintro e w8 ⟨rfl, hb8⟩
      have B8 := Lib.hid (B7.out.trans (hb8.mono B7.out.size))
      clear hb8 HEA B7 HS6
      go_wp2_with fail
      refine image_none.mono ?_
      rintro e w9 ⟨ts9, A9, n9, c9, hts9, hn9, rfl, t9⟩
      have HN9 := Lib.hid hn9
      have HS9 := Lib.hid (img_sl (PsOk.nil (top := 0)) HST.out (by decide) hts9 hn9 t9)
      have B9 := Lib.hid (B8.out.trans (t9.free.mono B8.out.size))
      have HRN := Lib.hid (show Calls Try.prog 33 #[.slice none 0 0, .int .i64 st] w9 (RimgPost [] st w9) from rimage_any (w := w9) (B := 0) (A := none) (c := 0) (R := []) (st := st) sl_nil (Nat.zero_le _) (by decide) (fun k => List.Pairwise.nil) (fun v hv => by cases hv) (fun v hv => by cases hv))
      clear hts9 hn9 t9 B8
      go_wp2_with fail
      refine HRN.out.mono ?_
      rintro e wd ⟨tsd, Ad, nd, cd, htsd, hnd, rfl, td⟩
      rw [RelRS.nil.img] at htsd hnd
      have HSd := Lib.hid (img_sl (PsOk.nil (top := 0)) HST.out (by decide) htsd hnd td)
      have HEB := Lib.hid (entriesAlike_any (c := c9) (c' := cd) ((HS9.out.below td.free).more td.free.size) HSd.out (by rw [imgF_len]; decide))
      have Bd := Lib.hid (B9.out.trans (td.free.mono B9.out.size))
      rw [← hnd] at HEB
      have hn9d : n9 = nd := HN9.out.trans hnd.symm
      subst hn9d
      clear htsd hnd td HRN HSd HS9 B9
      go_wp2_with fail
      refine HEB.out.mono ?_
      rintro e we ⟨rfl, hbe⟩
      have Be := Lib.hid (Bd.out.trans (hbe.mono Bd.out.size))
      clear hbe HEB Bd
      go_wp2_with fail
      refine rebuildFixed_any.mono ?_
      rintro e wf ⟨rfl, hbf⟩
      have HR := Lib.hid (show True_ w (.returned (.bool true)) wf from ⟨rfl, Be.out.trans (hbf.mono Be.out.size)⟩)
      clear hbf Be
      go_wp2
      go_ret
      exact HR.out
end Go.Proofs.Ytoecgkdipgaaeaa
