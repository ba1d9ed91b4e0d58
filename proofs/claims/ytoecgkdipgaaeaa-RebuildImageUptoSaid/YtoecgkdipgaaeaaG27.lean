/- Contracts and plain laws that this claim leans on, laid together: RefS2, RefS3, RefS4. -/
import Derived.Test.YtoecgkdipgaaeaaG26
import Derived.Test.YtoecgkdipgaaeaaCmtL2
import Derived.Deep.CutRange
import Derived.Test.YtoecgkdipgaaeaaG16
import Derived.Sort.OwnSorted
set_option linter.all false
set_option linter.unusedVariables false
set_option linter.unusedSimpArgs false
set_option linter.unnecessarySimpa false
/- The reference's store: Apply, by contract. -/
namespace Go.Proofs.Ytoecgkdipgaaeaa
open Go.RowKit

/-- Apply, as the reference does it. -/
def appRS (R : List Vn) (v : Vn) : List Vn × Int := if v.bad ≠ 0 then (R, v.bad) else if ∃ o, newL R v.key 4611686018427387904 = some o ∧ v.stamp ≤ o.stamp then (R, 130) else (R ++ [v], 0)
theorem hv_ones (hs : List Hv) : ∀ u ∈ hvCells hs, u.oneCell' = true := by
  intro u hu
  unfold hvCells at hu
  obtain ⟨t, _, h⟩ := List.mem_flatMap.1 hu
  simp only [Vn.cells, List.mem_cons, List.not_mem_nil, or_false] at h
  rcases h with rfl | rfl | rfl | rfl <;> rfl
theorem gV_new {a : Item} {w0 w : World} {A A' : Option Addr} {n n' c c' : Nat} {hs : List Hv} {t : Hv} (T : Turn a w0 (Item.all [Item.rowT 33 4 (.slice A' n' c') n' (hvCells (hs ++ [t])), gV A n c hs, Item.row (.slice t.A t.x.value.length t.c) t.x.value]) w) : Turn a w0 (gV A' n' c' (hs ++ [t])) w := by
  have t1 := (T.by_ 3 rfl [1, 0, 2] (by decide)).sameR same_flat
  have t2 : Turn a w0 (Item.all (hvRows hs ++ [Item.rowT 33 4 (.slice A' n' c') n' (hvCells (hs ++ [t])), Item.row (.slice t.A t.x.value.length t.c) t.x.value])) w := t1.sub (List.sublist_cons_self _ _)
  have t3 : Turn a w0 (Item.all (Item.rowT 33 4 (.slice A' n' c') n' (hvCells (hs ++ [t])) :: hvRows (hs ++ [t]))) w := by
    rw [hvRows_snoc]
    exact t2.permR List.perm_middle
  exact t3
def AppPost (A : Option Addr) (n c : Nat) (hs : List Hv) (v : Vn) (w : World) (e : Ending) (w' : World) : Prop :=
  (appRS (hs.map Hv.x) v).2 ≠ 0 ∧ e = .returned (.tuple #[.slice A n c, .int .i64 (appRS (hs.map Hv.x) v).2]) ∧ Below w.heap.size w w' ∨
  (appRS (hs.map Hv.x) v).2 = 0 ∧ ∃ (A' : Option Addr) (c' : Nat) (t : Hv), t.x = v ∧ e = .returned (.tuple #[.slice A' (n + 1) c', .int .i64 0]) ∧ Turn (gV A n c hs) w (gV A' (n + 1) c' (hs ++ [t])) w'
set_option maxRecDepth 100000 in
set_option maxHeartbeats 12800000 in
theorem rapply_any {w : World} {A : Option Addr} {n c : Nat} {hs : List Hv} (h : (gV A n c hs).P w) (hn : n = hs.length) (hi : ∀ e ∈ hs.map Hv.x, e.ints) (hN : n ≤ 1000000000) {Av : Option Addr} {cv : Nat} (x : Vn) (hr : BReads w w.heap.size Av x.value) (hvs : x.value.length ≤ 140737488355328) :
    Calls Try.prog 30 #[.slice A n c, .agg (x.cells Av cv)] w (AppPost A n c hs x w) := by
  obtain ⟨key, st, v, dd⟩ := x
  have H := Lib.hid h
  have HSL := Lib.hid (hv_sl h hn hi)
  have HR := Lib.hid hr
  have HNL := Lib.hid (show (hs.map Hv.x).length = n from by rw [List.length_map, hn])
  obtain ⟨cd, hcd⟩ : ∃ x, x = (appRS (hs.map Hv.x) ⟨key, st, v, dd⟩).2 := ⟨_, rfl⟩
  have HCD := Lib.hid hcd
  have hb1 := (Below.refl w.heap.size w).alloc (Nat.le_refl _) (.cells #[.string key, .int .i64 st, .slice Av v.length cv, .bool dd] 33)
  obtain ⟨w1, hw1⟩ : ∃ y, y = w.alloc (.cells #[.string key, .int .i64 st, .slice Av v.length cv, .bool dd] 33) := ⟨_, rfl⟩
  have HW1 := Lib.hid hw1
  rw [← hw1] at hb1
  have HB1 := Lib.hid hb1
  have hbad := (rfl : Vn.bad ⟨key, st, v, dd⟩ = Vn.bad ⟨key, st, v, dd⟩)
  have HNO := Lib.hid (fun (code : Int) (hc : code ≠ 0) (he : appRS (hs.map Hv.x) ⟨key, st, v, dd⟩ = (hs.map Hv.x, code)) (W : World) (hb : Below w.heap.size w W) => (show AppPost A n c hs ⟨key, st, v, dd⟩ w (.returned (.tuple #[.slice A n c, .int .i64 code])) W from .inl ⟨by rw [he]; exact hc, by rw [he], hb⟩))
  have HBAD := Lib.hid (fun (code : Int) (hc : code ≠ 0) (hb : Vn.bad ⟨key, st, v, dd⟩ = code) => HNO.out code hc (by unfold appRS; rw [if_pos (by rw [hb]; exact hc), hb]))
  have hvl : v.length ≤ 140737488355328 := hvs
  clear h hn hi hr hcd hb1 hw1 hbad hvs
  unfold Vn.cells
  simp only
  go_enter Try.func30, Try.ntmps30
  by_cases k1 : key.size < 1
  · have HE := Lib.hid (HBAD.out 140 (by decide) (by unfold Vn.bad; rw [if_pos (.inl k1)]))
    go_wp2
    go_ret2
    exact HE.out _ (by rw [← HW1.out]; exact HB1.out)
  by_cases k2 : 255 < key.size
  · have HE := Lib.hid (HBAD.out 140 (by decide) (by unfold Vn.bad; rw [if_pos (.inr k2)]))
    go_wp2
    go_ret2
    exact HE.out _ (by rw [← HW1.out]; exact HB1.out)
  by_cases v1 : 4096 < v.length
  · have HE := Lib.hid (HBAD.out 141 (by decide) (by unfold Vn.bad; rw [if_neg (by rintro (h | h); exact k1 h; exact k2 h), if_pos (.inl v1)]))
    go_wp2
    go_ret2
    exact HE.out _ (by rw [← HW1.out]; exact HB1.out)
  by_cases v2 : dd = true ∧ 0 < v.length
  · have HE := Lib.hid (HBAD.out 141 (by decide) (by unfold Vn.bad; rw [if_neg (by rintro (h | h); exact k1 h; exact k2 h), if_pos (.inr v2)]))
    obtain ⟨rfl, v3⟩ := v2
    go_wp2
    go_ret2
    exact HE.out _ (by rw [← HW1.out]; exact HB1.out)
  by_cases s1 : st < 0
  · have HE := Lib.hid (HBAD.out 2 (by decide) (by unfold Vn.bad; rw [if_neg (by rintro (h | h); exact k1 h; exact k2 h), if_neg (by rintro (h | h); exact v1 h; exact v2 h), if_pos (.inl s1)]))
    have e1 : decide (st < 0) = true := decide_eq_true s1
    by_cases v3 : 0 < v.length
    · cases dd with
      | true => exact (v2 ⟨rfl, v3⟩).elim
      | false =>
        clear v2 s1
        go_wp2
        go_ret2
        exact HE.out _ (by rw [← HW1.out]; exact HB1.out)
    · clear v2 s1
      go_wp2
      go_ret2
      exact HE.out _ (by rw [← HW1.out]; exact HB1.out)
  by_cases s2 : 4611686018427387904 < st
  · have HE := Lib.hid (HBAD.out 2 (by decide) (by unfold Vn.bad; rw [if_neg (by rintro (h | h); exact k1 h; exact k2 h), if_neg (by rintro (h | h); exact v1 h; exact v2 h), if_pos (.inr s2)]))
    have e1 : decide (st < 0) = false := decide_eq_false s1
    have e2 : decide (4611686018427387904 < st) = true := decide_eq_true s2
    by_cases v3 : 0 < v.length
    · cases dd with
      | true => exact (v2 ⟨rfl, v3⟩).elim
      | false =>
        clear v2 s1 s2
        go_wp2
        go_ret2
        exact HE.out _ (by rw [← HW1.out]; exact HB1.out)
    · clear v2 s1 s2
      go_wp2
      go_ret2
      exact HE.out _ (by rw [← HW1.out]; exact HB1.out)
  have HGD := Lib.hid (show Vn.bad ⟨key, st, v, dd⟩ = 0 from by unfold Vn.bad; rw [if_neg (by rintro (h | h); exact k1 h; exact k2 h), if_neg (by rintro (h | h); exact v1 h; exact v2 h), if_neg (by rintro (h | h); exact s1 h; exact s2 h)])
  have e1 : decide (st < 0) = false := decide_eq_false s1
  have e2 : decide (4611686018427387904 < st) = false := decide_eq_false s2
  have HLA := Lib.hid (rlast_any (w := w1) (c := c) (HSL.out.below HB1.out) HB1.out.size (by rw [HNL.out]; omega) key)
  rw [HNL.out] at HLA
  clear s1 s2
  have HV2 := Lib.hid v2
  clear v2
  go_upto_region 3 with fail
  rw [← HW1.out]
  have X1 := Lib.hid (show Turn (gV A n c hs) w (Item.all [Item.blk w.heap.size 33 #[.string key, .int .i64 st, .slice Av v.length cv, .bool dd], gV A n c hs]) w1 from by
    rw [HW1.out]
    exact (Turn.refl H.out).one.more (y := Item.blk w.heap.size 33 #[.string key, .int .i64 st, .slice Av v.length cv, .bool dd]) ((Below.refl _ _).alloc (Nat.le_refl _) _) (Blk.new _ _ _) (fun k hk => Nat.le_of_eq hk.symm))
  clear HW1
  have p0 := Blk.cell (show Blk w1 w.heap.size _ #[.string key, .int .i64 st, .slice Av v.length cv, .bool dd] from X1.out.get (i := 0) rfl) 0
  have p1 := Blk.cell (show Blk w1 w.heap.size _ #[.string key, .int .i64 st, .slice Av v.length cv, .bool dd] from X1.out.get (i := 0) rfl) 1
  have p2 := Blk.cell (show Blk w1 w.heap.size _ #[.string key, .int .i64 st, .slice Av v.length cv, .bool dd] from X1.out.get (i := 0) rfl) 2
  have p3 := Blk.cell (show Blk w1 w.heap.size _ #[.string key, .int .i64 st, .slice Av v.length cv, .bool dd] from X1.out.get (i := 0) rfl) 3
  simp only [List.getElem?_toArray, List.getElem?_cons_zero, List.getElem?_cons_succ] at p0 p1 p2 p3
  go_cut [32] from 19 to 32 (fun u wc => u = .bool false ∧ wc = w1)
  case first =>
    by_cases v3 : 0 < v.length
    · have hdd : dd = false := by
        cases dd with
        | false => rfl
        | true => exact (HV2.out ⟨rfl, v3⟩).elim
      subst hdd
      go_wp2_with fail
      go_meet
      exact ⟨congrArg Value.bool (decide_eq_false (by omega)), rfl⟩
    · go_wp2_with fail
      go_meet
      exact ⟨congrArg Value.bool (decide_eq_false (by omega)), rfl⟩
  case rest =>
    obtain ⟨rfl, hwc⟩ := hcut
    have hwc' := hwc.symm
    subst hwc'
    go_wp2_with fail
    refine HLA.out.mono ?_
    rintro e w2 ⟨⟨A8, c8, rfl⟩, hb2⟩
    obtain ⟨o, ho⟩ : ∃ o, o = newL (hs.map Hv.x) key 4611686018427387904 := ⟨_, rfl⟩
    have HO := Lib.hid ho
    rw [← ho]
    obtain ⟨⟨ok_, os, ov, od⟩, hov⟩ : ∃ v, v = o.getD vz := ⟨_, rfl⟩
    have HOV := Lib.hid hov
    rw [← hov, show Vn.cells ⟨ok_, os, ov, od⟩ A8 c8 = #[.string ok_, .int .i64 os, .slice A8 ov.length c8, .bool od] from rfl]
    obtain ⟨b, hb_⟩ : ∃ b, b = o.isSome := ⟨_, rfl⟩
    have HBB := Lib.hid hb_
    rw [← hb_]
    obtain ⟨w3, hw3⟩ : ∃ y, y = w2.alloc (.cells #[.string ok_, .int .i64 os, .slice A8 ov.length c8, .bool od] 33) := ⟨_, rfl⟩
    have HW3 := Lib.hid hw3
    have X3 := Lib.hid (show Turn (gV A n c hs) w (Item.all [Item.blk w2.heap.size 33 #[.string ok_, .int .i64 os, .slice A8 ov.length c8, .bool od], Item.blk w.heap.size 33 #[.string key, .int .i64 st, .slice Av v.length cv, .bool dd], gV A n c hs]) w3 from by
      rw [hw3]
      exact (X1.out.go hb2).more (y := Item.blk w2.heap.size 33 #[.string ok_, .int .i64 os, .slice A8 ov.length c8, .bool od]) ((Below.refl _ _).alloc (Nat.le_refl _) _) (Blk.new _ _ _) (fun k hk => Nat.le_of_eq hk.symm))
    have HB3 := Lib.hid (show Below w.heap.size w w3 from by
      have h1 := HB1.out.trans (hb2.mono HB1.out.size)
      rw [hw3]
      exact h1.trans (((Below.refl w2.heap.size w2).alloc (Nat.le_refl _) _).mono h1.size))
    clear p0 p1 p2 p3 hb2 HLA X1 ho hov hb_ hw3
    go_upto_region 8 with fail
    rw [← HW3.out]
    clear HW3
    have p0 := Blk.cell (show Blk w3 w.heap.size _ #[.string key, .int .i64 st, .slice Av v.length cv, .bool dd] from X3.out.get (i := 1) rfl) 0
    have p1 := Blk.cell (show Blk w3 w.heap.size _ #[.string key, .int .i64 st, .slice Av v.length cv, .bool dd] from X3.out.get (i := 1) rfl) 1
    have p2 := Blk.cell (show Blk w3 w.heap.size _ #[.string key, .int .i64 st, .slice Av v.length cv, .bool dd] from X3.out.get (i := 1) rfl) 2
    have p3 := Blk.cell (show Blk w3 w.heap.size _ #[.string key, .int .i64 st, .slice Av v.length cv, .bool dd] from X3.out.get (i := 1) rfl) 3
    have f2 := Blk.frozen (show Blk w3 w.heap.size _ #[.string key, .int .i64 st, .slice Av v.length cv, .bool dd] from X3.out.get (i := 1) rfl) 2
    have q1 := Blk.cell (show Blk w3 w2.heap.size _ #[.string ok_, .int .i64 os, .slice A8 ov.length c8, .bool od] from X3.out.get (i := 0) rfl) 1
    simp only [List.getElem?_toArray, List.getElem?_cons_zero, List.getElem?_cons_succ] at p0 p1 p2 p3 q1
    obtain ⟨B, hB⟩ : ∃ B, B = (b && decide (st ≤ os)) := ⟨_, rfl⟩
    go_cut [57] from 50 to 57 (fun u wc => u = .bool B ∧ wc = w3)
    case first =>
      cases b with
      | false =>
        go_wp2_with fail
        go_meet
        exact ⟨by rw [hB]; rfl, rfl⟩
      | true =>
        by_cases hs2 : st ≤ os
        · have e3 : decide (st ≤ os) = true := decide_eq_true hs2
          clear hs2
          go_wp2_with fail
          go_meet
          exact ⟨by rw [hB, e3]; rfl, rfl⟩
        · have e3 : decide (st ≤ os) = false := decide_eq_false hs2
          clear hs2
          go_wp2_with fail
          go_meet
          exact ⟨by rw [hB, e3]; rfl, rfl⟩
    case rest =>
      obtain ⟨rfl, hwc⟩ := hcut
      have hwc' := hwc.symm
      subst hwc'
      have HNB := Lib.hid (show (∃ q, newL (hs.map Hv.x) key 4611686018427387904 = some q ∧ st ≤ q.stamp) ↔ B = true from by
        rw [hB, HBB.out, ← HO.out, Bool.and_eq_true, decide_eq_true_eq]
        constructor
        · rintro ⟨q, h1, h2⟩
          have h0 := HOV.out
          rw [h1] at h0
          have h3 : os = q.stamp := congrArg Vn.stamp h0
          exact ⟨by rw [h1]; rfl, by omega⟩
        · rintro ⟨h1, h2⟩
          obtain ⟨q, hq⟩ := Option.isSome_iff_exists.1 h1
          have h0 := HOV.out
          rw [hq] at h0
          have h3 : os = q.stamp := congrArg Vn.stamp h0
          exact ⟨q, hq, by omega⟩)
      clear hB
      cases B with
      | true =>
        have HE := Lib.hid (HNO.out 130 (by decide) (by
          unfold appRS
          rw [if_neg (by rw [HGD.out]; simp), if_pos (HNB.out.2 rfl)]) w3 HB3.out)
        go_wp2
        go_ret2
        exact HE.out
      | false =>
        have HOKK := Lib.hid (show appRS (hs.map Hv.x) ⟨key, st, v, dd⟩ = (hs.map Hv.x ++ [⟨key, st, v, dd⟩], 0) from by
          unfold appRS
          rw [if_neg (by rw [HGD.out]; simp), if_neg (fun h => by have := HNB.out.1 h; cases this)])
        have hlt3 : w.heap.size < w3.heap.size := (show Blk w3 w.heap.size _ #[.string key, .int .i64 st, .slice Av v.length cv, .bool dd] from X3.out.get (i := 1) rfl).lt
        go_wp2_with (at_builtin; refine Stop.of ?_)
        obtain ⟨w4, hw4⟩ : ∃ y, y = w3.alloc (.cells #[] 5) := ⟨_, rfl⟩
        have X4 := Lib.hid (show Turn (gV A n c hs) w (Item.all [Item.row (.slice (some ⟨w3.heap.size, 0, none⟩) 0 0) [], Item.blk w2.heap.size 33 #[.string ok_, .int .i64 os, .slice A8 ov.length c8, .bool od], Item.blk w.heap.size 33 #[.string key, .int .i64 st, .slice Av v.length cv, .bool dd], gV A n c hs]) w4 from by
          rw [hw4]
          exact X3.out.more (y := Item.row (.slice (some ⟨w3.heap.size, 0, none⟩) 0 0) []) ((Below.refl _ _).alloc (Nat.le_refl _) _) (row_new rfl (by decide)) (fun k hk => own_new hk))
        have HB4 := Lib.hid (show Below w.heap.size w w4 from by
          rw [hw4]
          exact HB3.out.trans (((Below.refl w3.heap.size w3).alloc (Nat.le_refl _) _).mono HB3.out.size))
        rw [← hw4]
        clear hw4 p0 p1 p2 p3 f2 q1 hlt3
        refine ⟨append_bytes (l := []) (m := v) (X4.out.get (i := 0) rfl) (BReads.src (c := cv) ((HR.out.below HB4.out).more HB4.out.size)) (by simp only [List.length_nil]; omega) (Nat.zero_le _) rfl rfl rfl rfl ?_⟩
        intro v' w5 ho hg hf
        rw [List.nil_append] at ho
        have X5 := Lib.hid (X4.out.step (i := 0) rfl (Turn.rowT (e := 5) (size := 1) (v := .slice (some ⟨w3.heap.size, 0, none⟩) 0 0) (n := 0) (xs := []) ho hg hf))
        obtain ⟨A5, c5, rfl, _, _⟩ := BOwns.slice ho
        clear ho hg hf X4
        have p0 := Blk.cell (show Blk w5 w.heap.size _ #[.string key, .int .i64 st, .slice Av v.length cv, .bool dd] from X5.out.get (i := 2) rfl) 0
        have p1 := Blk.cell (show Blk w5 w.heap.size _ #[.string key, .int .i64 st, .slice Av v.length cv, .bool dd] from X5.out.get (i := 2) rfl) 1
        have p2 := Blk.cell (show Blk w5 w.heap.size _ #[.string key, .int .i64 st, .slice Av v.length cv, .bool dd] from X5.out.get (i := 2) rfl) 2
        have p3 := Blk.cell (show Blk w5 w.heap.size _ #[.string key, .int .i64 st, .slice Av v.length cv, .bool dd] from X5.out.get (i := 2) rfl) 3
        have f2 := Blk.frozen (show Blk w5 w.heap.size _ #[.string key, .int .i64 st, .slice Av v.length cv, .bool dd] from X5.out.get (i := 2) rfl) 2
        simp only [List.getElem?_toArray, List.getElem?_cons_zero, List.getElem?_cons_succ] at p0 p1 p2 p3
        obtain ⟨w8, hw8⟩ : ∃ y, y = w5.setCell ⟨w.heap.size, 2, none⟩ (.slice A5 v.length c5) := ⟨_, rfl⟩
        have X7 := Lib.hid (show Turn (gV A n c hs) w (Item.all [Item.row (.slice A5 v.length c5) v, Item.blk w.heap.size 33 #[.string key, .int .i64 st, .slice A5 v.length c5, .bool dd], gV A n c hs]) w8 from by
          rw [hw8]
          have t := X5.out.step (i := 2) rfl (Turn.cell (X5.out.get (i := 2) rfl) 2 (.slice A5 v.length c5))
          exact (t.by_ 4 rfl [0, 2, 3, 1] (by decide)).sub (List.Sublist.cons_cons _ (List.Sublist.cons_cons _ (List.Sublist.cons_cons _ (List.nil_sublist _)))))
        have X8 := Lib.hid (X7.out.go (Below.refl _ _).drew)
        have HW8 := Lib.hid hw8
        clear X5 X7 hw8
        go_upto_region 11 with fail
        rw [← HW8.out]
        clear HW8 p0 p1 p2 p3 f2
        have HFIN := Lib.hid (fun (AR : Option Addr) (cr : Nat) (W : World) (t : Turn (gV A n c hs) w (Item.all [Item.rowT 33 4 (.slice AR (n + 1) cr) (n + 1) (hvCells hs ++ #[.string key, .int .i64 st, .slice A5 v.length c5, .bool dd].toList), gV A n c hs, Item.row (.slice A5 v.length c5) v]) W) => (show AppPost A n c hs ⟨key, st, v, dd⟩ w (.returned (.tuple #[.slice AR (n + 1) cr, .int .i64 0])) W from .inr ⟨by rw [HOKK.out], AR, cr, ⟨⟨key, st, v, dd⟩, A5, c5⟩, rfl, rfl, gV_new (t := ⟨⟨key, st, v, dd⟩, A5, c5⟩) (by rw [hvCells_snoc]; exact t)⟩))
        have p0 := Blk.cell (show Blk w8.drew w.heap.size _ #[.string key, .int .i64 st, .slice A5 v.length c5, .bool dd] from X8.out.get (i := 1) rfl) 0
        have p1 := Blk.cell (show Blk w8.drew w.heap.size _ #[.string key, .int .i64 st, .slice A5 v.length c5, .bool dd] from X8.out.get (i := 1) rfl) 1
        have p2 := Blk.cell (show Blk w8.drew w.heap.size _ #[.string key, .int .i64 st, .slice A5 v.length c5, .bool dd] from X8.out.get (i := 1) rfl) 2
        have p3 := Blk.cell (show Blk w8.drew w.heap.size _ #[.string key, .int .i64 st, .slice A5 v.length c5, .bool dd] from X8.out.get (i := 1) rfl) 3
        simp only [List.getElem?_toArray, List.getElem?_cons_zero, List.getElem?_cons_succ] at p0 p1 p2 p3
        refine wp_region_held_drew (S := fun w' => w'.cell? ⟨w.heap.size, 0, none⟩ = some (.string key) ∧ w'.cell? ⟨w.heap.size, 1, none⟩ = some (.int .i64 st) ∧ w'.cell? ⟨w.heap.size, 2, none⟩ = some (.slice A5 v.length c5) ∧ w'.cell? ⟨w.heap.size, 3, none⟩ = some (.bool dd)) (by kernel_rfl) ⟨p0, p1, p2, p3⟩ (fun hHeld => ?_)
        clear p0 p1 p2 p3
        obtain ⟨wd, hwd⟩ : ∃ y, y = w8.drew := ⟨_, rfl⟩
        rw [← hwd] at hHeld X8 ⊢
        clear hwd
        refine wpAnyH_take (i := 1) (v := ?_) rfl (by kernel_rfl) (by kernel_rfl) (by kernel_rfl) (fun _ _ _ h => h) (Or.inl ⟨by rfl, ?_⟩) (by assumption) ?_
        rotate_left 1
        · (intro w hSw; (try dsimp only at hSw); go_simp; (try with_reducible rfl))
        try simp only [Act.put, List.getElem_toArray, List.getElem_cons_zero, List.getElem_cons_succ, List.setIfInBounds_toArray, List.set_cons_zero, List.set_cons_succ]
        refine wpAnyH_take (i := 3) (v := ?_) rfl (by kernel_rfl) (by kernel_rfl) (by kernel_rfl) (fun _ _ _ h => h) (Or.inl ⟨by rfl, ?_⟩) (by assumption) ?_
        rotate_left 1
        · (intro w hSw; (try dsimp only at hSw); go_simp; (try with_reducible rfl))
        try simp only [Act.put, List.getElem_toArray, List.getElem_cons_zero, List.getElem_cons_succ, List.setIfInBounds_toArray, List.set_cons_zero, List.set_cons_succ]
        refine wpAnyH_ready (rs := [0, 4]) (by kernel_rfl) (by simp) ?_
        refine AllReadyH.cons rfl (fun K' hK' => ?_) (AllReadyH.cons rfl (fun K' hK' => ?_) AllReadyH.nil)
        · rw [if_pos (by rfl)]
          obtain ⟨wx1, hw1⟩ : ∃ y, y = World.alloc wd (.cells #[] 33) := ⟨_, rfl⟩
          have X1 := Lib.hid (show Turn _ w (Item.all (Item.rowT 33 4 (.slice (some ⟨(wd).heap.size, 0, none⟩) 0 0) 0 [] :: _)) wx1 from by
            rw [hw1]
            exact X8.out.more (y := Item.rowT 33 4 (.slice (some ⟨(wd).heap.size, 0, none⟩) 0 0) 0 []) ((Below.refl _ _).alloc (Nat.le_refl _) _) (row_new rfl (by decide)) (fun k hk => own_new hk))
          go_simp
          rw [← hw1]
          clear hw1
          have p0 := Blk.cell (show Blk wx1 w.heap.size _ #[.string key, .int .i64 st, .slice A5 v.length c5, .bool dd] from X1.out.get (i := 2) rfl) 0
          have p1 := Blk.cell (show Blk wx1 w.heap.size _ #[.string key, .int .i64 st, .slice A5 v.length c5, .bool dd] from X1.out.get (i := 2) rfl) 1
          have p2 := Blk.cell (show Blk wx1 w.heap.size _ #[.string key, .int .i64 st, .slice A5 v.length c5, .bool dd] from X1.out.get (i := 2) rfl) 2
          have p3 := Blk.cell (show Blk wx1 w.heap.size _ #[.string key, .int .i64 st, .slice A5 v.length c5, .bool dd] from X1.out.get (i := 2) rfl) 3
          simp only [List.getElem?_toArray, List.getElem?_cons_zero, List.getElem?_cons_succ] at p0 p1 p2 p3
          refine hK'.out _ _ ⟨p0, p1, p2, p3⟩ (fun hHeld => ?_)
          clear hK' K' p0 p1 p2 p3
          try simp only [Act.put, List.getElem_toArray, List.getElem_cons_zero, List.getElem_cons_succ, List.setIfInBounds_toArray, List.set_cons_zero, List.set_cons_succ]
          refine wpAnyH_ready (rs := [2, 4]) (by kernel_rfl) (by simp) ?_
          refine AllReadyH.cons rfl (fun K' hK' => ?_) (AllReadyH.cons rfl (fun K' hK' => ?_) AllReadyH.nil)
          · rw [if_pos (by rfl)]
            refine wp_append_any _ rfl 0 Try.underlying44 info_ver rfl (by decide) (by decide) rfl (X1.out.get (i := 0) rfl) rfl (Reads.src (Reads.of_own (Item.all_get (X1.out.get (i := 3) rfl) (List.mem_cons_self ..))) Try.underlying44 c (hv_ones hs)) (by omega) (Nat.zero_le _) ?_
            intro v' wx2 ho hg hf
            rw [Nat.zero_add, List.nil_append] at ho
            have X2 := Lib.hid (X1.out.step (i := 0) rfl (Turn.rowT (v := (.slice (some ⟨(wd).heap.size, 0, none⟩) 0 0)) (n := 0) (xs := []) ho hg hf))
            obtain ⟨AR2, cr2, rfl, _, _⟩ := own_slice ho
            clear ho hg hf
            have p0 := Blk.cell (show Blk wx2 w.heap.size _ #[.string key, .int .i64 st, .slice A5 v.length c5, .bool dd] from X2.out.get (i := 2) rfl) 0
            have p1 := Blk.cell (show Blk wx2 w.heap.size _ #[.string key, .int .i64 st, .slice A5 v.length c5, .bool dd] from X2.out.get (i := 2) rfl) 1
            have p2 := Blk.cell (show Blk wx2 w.heap.size _ #[.string key, .int .i64 st, .slice A5 v.length c5, .bool dd] from X2.out.get (i := 2) rfl) 2
            have p3 := Blk.cell (show Blk wx2 w.heap.size _ #[.string key, .int .i64 st, .slice A5 v.length c5, .bool dd] from X2.out.get (i := 2) rfl) 3
            simp only [List.getElem?_toArray, List.getElem?_cons_zero, List.getElem?_cons_succ] at p0 p1 p2 p3
            refine hK'.out _ _ ⟨p0, p1, p2, p3⟩ (fun hHeld => ?_)
            clear hK' K' p0 p1 p2 p3
            try simp only [Act.put, List.getElem_toArray, List.getElem_cons_zero, List.getElem_cons_succ, List.setIfInBounds_toArray, List.set_cons_zero, List.set_cons_succ]
            refine wpAnyH_ready (rs := [4]) (by kernel_rfl) (by simp) ?_
            refine AllReadyH.cons rfl (fun K' hK' => ?_) AllReadyH.nil
            · rw [if_pos (by rfl)]
              obtain ⟨wx3, hw3⟩ : ∃ y, y = World.alloc wx2 (.cells #[.string key, .int .i64 st, .slice A5 v.length c5, .bool dd] 33) := ⟨_, rfl⟩
              have X3 := Lib.hid (show Turn _ w (Item.all (Item.blk (wx2).heap.size 33 #[.string key, .int .i64 st, .slice A5 v.length c5, .bool dd] :: _)) wx3 from by
                rw [hw3]
                exact X2.out.more (y := Item.blk (wx2).heap.size 33 #[.string key, .int .i64 st, .slice A5 v.length c5, .bool dd]) ((Below.refl _ _).alloc (Nat.le_refl _) _) (Blk.new _ _ _) (fun k hk => Nat.le_of_eq hk.symm))
              go_simp
              rw [← hw3]
              clear hw3
              have p0 := Blk.cell (show Blk wx3 w.heap.size _ #[.string key, .int .i64 st, .slice A5 v.length c5, .bool dd] from X3.out.get (i := 3) rfl) 0
              have p1 := Blk.cell (show Blk wx3 w.heap.size _ #[.string key, .int .i64 st, .slice A5 v.length c5, .bool dd] from X3.out.get (i := 3) rfl) 1
              have p2 := Blk.cell (show Blk wx3 w.heap.size _ #[.string key, .int .i64 st, .slice A5 v.length c5, .bool dd] from X3.out.get (i := 3) rfl) 2
              have p3 := Blk.cell (show Blk wx3 w.heap.size _ #[.string key, .int .i64 st, .slice A5 v.length c5, .bool dd] from X3.out.get (i := 3) rfl) 3
              simp only [List.getElem?_toArray, List.getElem?_cons_zero, List.getElem?_cons_succ] at p0 p1 p2 p3
              refine hK'.out _ _ ⟨p0, p1, p2, p3⟩ (fun hHeld => ?_)
              clear hK' K' p0 p1 p2 p3
              try simp only [Act.put, List.getElem_toArray, List.getElem_cons_zero, List.getElem_cons_succ, List.setIfInBounds_toArray, List.set_cons_zero, List.set_cons_succ]
              refine wpAnyH_ready (rs := [5]) (by kernel_rfl) (by simp) ?_
              refine AllReadyH.cons rfl (fun K' hK' => ?_) AllReadyH.nil
              · rw [if_pos (by rfl)]
                refine wp_append_any _ rfl 0 Try.underlying44 info_ver rfl (by decide) (by decide) rfl (X3.out.get (i := 1) rfl) rfl (fresh_src (show Blk _ _ 33 #[.string key, .int .i64 st, .slice A5 v.length c5, .bool dd] from X3.out.get (i := 0) rfl) Try.underlying44 rfl (by decide) rfl) (by omega) (Nat.zero_le _) ?_
                intro v' wx4 ho hg hf
                have X4 := Lib.hid (X3.out.step (i := 1) rfl (Turn.rowT (v := (.slice AR2 n cr2)) (n := n) (xs := hvCells hs) ho hg hf))
                obtain ⟨AR4, cr4, rfl, _, _⟩ := own_slice ho
                clear ho hg hf
                have p0 := Blk.cell (show Blk wx4 w.heap.size _ #[.string key, .int .i64 st, .slice A5 v.length c5, .bool dd] from X4.out.get (i := 3) rfl) 0
                have p1 := Blk.cell (show Blk wx4 w.heap.size _ #[.string key, .int .i64 st, .slice A5 v.length c5, .bool dd] from X4.out.get (i := 3) rfl) 1
                have p2 := Blk.cell (show Blk wx4 w.heap.size _ #[.string key, .int .i64 st, .slice A5 v.length c5, .bool dd] from X4.out.get (i := 3) rfl) 2
                have p3 := Blk.cell (show Blk wx4 w.heap.size _ #[.string key, .int .i64 st, .slice A5 v.length c5, .bool dd] from X4.out.get (i := 3) rfl) 3
                simp only [List.getElem?_toArray, List.getElem?_cons_zero, List.getElem?_cons_succ] at p0 p1 p2 p3
                refine hK'.out _ _ ⟨p0, p1, p2, p3⟩ (fun hHeld => ?_)
                clear hK' K' p0 p1 p2 p3
                try simp only [Act.put, List.getElem_toArray, List.getElem_cons_zero, List.getElem_cons_succ, List.setIfInBounds_toArray, List.set_cons_zero, List.set_cons_succ]
                refine wpAnyH_take (i := 6) (v := ?_) rfl (by kernel_rfl) (by kernel_rfl) (by kernel_rfl) (fun _ _ _ h => h) (Or.inl ⟨by rfl, ?_⟩) (by assumption) ?_
                rotate_left 1
                · (intro w hSw; (try dsimp only at hSw); go_simp; (try with_reducible rfl))
                try simp only [Act.put, List.getElem_toArray, List.getElem_cons_zero, List.getElem_cons_succ, List.setIfInBounds_toArray, List.set_cons_zero, List.set_cons_succ]
                refine wpAnyH_take (i := 7) (v := ?_) rfl (by kernel_rfl) (by kernel_rfl) (by kernel_rfl) (fun _ _ _ h => h) (Or.inl ⟨by rfl, ?_⟩) (by assumption) ?_
                rotate_left 1
                · (intro w hSw; (try dsimp only at hSw); go_simp; (try with_reducible rfl))
                try simp only [Act.put, List.getElem_toArray, List.getElem_cons_zero, List.getElem_cons_succ, List.setIfInBounds_toArray, List.set_cons_zero, List.set_cons_succ]
                refine wpAnyH_done (by kernel_rfl) ?_ _
                go_wp2
                go_ret2
                exact HFIN.out _ _ _ ((X4.out.by_ 5 rfl [1, 4, 2, 0, 3] (by decide)).sub (M := [_, _, _]) (List.Sublist.cons_cons _ (List.Sublist.cons_cons _ (List.Sublist.cons_cons _ (List.nil_sublist _)))))
          · rw [if_pos (by rfl)]
            obtain ⟨wx5, hw5⟩ : ∃ y, y = World.alloc wx1 (.cells #[.string key, .int .i64 st, .slice A5 v.length c5, .bool dd] 33) := ⟨_, rfl⟩
            have X5 := Lib.hid (show Turn _ w (Item.all (Item.blk (wx1).heap.size 33 #[.string key, .int .i64 st, .slice A5 v.length c5, .bool dd] :: _)) wx5 from by
              rw [hw5]
              exact X1.out.more (y := Item.blk (wx1).heap.size 33 #[.string key, .int .i64 st, .slice A5 v.length c5, .bool dd]) ((Below.refl _ _).alloc (Nat.le_refl _) _) (Blk.new _ _ _) (fun k hk => Nat.le_of_eq hk.symm))
            go_simp
            rw [← hw5]
            clear hw5
            have p0 := Blk.cell (show Blk wx5 w.heap.size _ #[.string key, .int .i64 st, .slice A5 v.length c5, .bool dd] from X5.out.get (i := 3) rfl) 0
            have p1 := Blk.cell (show Blk wx5 w.heap.size _ #[.string key, .int .i64 st, .slice A5 v.length c5, .bool dd] from X5.out.get (i := 3) rfl) 1
            have p2 := Blk.cell (show Blk wx5 w.heap.size _ #[.string key, .int .i64 st, .slice A5 v.length c5, .bool dd] from X5.out.get (i := 3) rfl) 2
            have p3 := Blk.cell (show Blk wx5 w.heap.size _ #[.string key, .int .i64 st, .slice A5 v.length c5, .bool dd] from X5.out.get (i := 3) rfl) 3
            simp only [List.getElem?_toArray, List.getElem?_cons_zero, List.getElem?_cons_succ] at p0 p1 p2 p3
            refine hK'.out _ _ ⟨p0, p1, p2, p3⟩ (fun hHeld => ?_)
            clear hK' K' p0 p1 p2 p3
            try simp only [Act.put, List.getElem_toArray, List.getElem_cons_zero, List.getElem_cons_succ, List.setIfInBounds_toArray, List.set_cons_zero, List.set_cons_succ]
            refine wpAnyH_ready (rs := [2]) (by kernel_rfl) (by simp) ?_
            refine AllReadyH.cons rfl (fun K' hK' => ?_) AllReadyH.nil
            · rw [if_pos (by rfl)]
              refine wp_append_any _ rfl 0 Try.underlying44 info_ver rfl (by decide) (by decide) rfl (X5.out.get (i := 1) rfl) rfl (Reads.src (Reads.of_own (Item.all_get (X5.out.get (i := 4) rfl) (List.mem_cons_self ..))) Try.underlying44 c (hv_ones hs)) (by omega) (Nat.zero_le _) ?_
              intro v' wx6 ho hg hf
              rw [Nat.zero_add, List.nil_append] at ho
              have X6 := Lib.hid (X5.out.step (i := 1) rfl (Turn.rowT (v := (.slice (some ⟨(wd).heap.size, 0, none⟩) 0 0)) (n := 0) (xs := []) ho hg hf))
              obtain ⟨AR6, cr6, rfl, _, _⟩ := own_slice ho
              clear ho hg hf
              have p0 := Blk.cell (show Blk wx6 w.heap.size _ #[.string key, .int .i64 st, .slice A5 v.length c5, .bool dd] from X6.out.get (i := 3) rfl) 0
              have p1 := Blk.cell (show Blk wx6 w.heap.size _ #[.string key, .int .i64 st, .slice A5 v.length c5, .bool dd] from X6.out.get (i := 3) rfl) 1
              have p2 := Blk.cell (show Blk wx6 w.heap.size _ #[.string key, .int .i64 st, .slice A5 v.length c5, .bool dd] from X6.out.get (i := 3) rfl) 2
              have p3 := Blk.cell (show Blk wx6 w.heap.size _ #[.string key, .int .i64 st, .slice A5 v.length c5, .bool dd] from X6.out.get (i := 3) rfl) 3
              simp only [List.getElem?_toArray, List.getElem?_cons_zero, List.getElem?_cons_succ] at p0 p1 p2 p3
              refine hK'.out _ _ ⟨p0, p1, p2, p3⟩ (fun hHeld => ?_)
              clear hK' K' p0 p1 p2 p3
              try simp only [Act.put, List.getElem_toArray, List.getElem_cons_zero, List.getElem_cons_succ, List.setIfInBounds_toArray, List.set_cons_zero, List.set_cons_succ]
              refine wpAnyH_ready (rs := [5]) (by kernel_rfl) (by simp) ?_
              refine AllReadyH.cons rfl (fun K' hK' => ?_) AllReadyH.nil
              · rw [if_pos (by rfl)]
                refine wp_append_any _ rfl 0 Try.underlying44 info_ver rfl (by decide) (by decide) rfl (X6.out.get (i := 1) rfl) rfl (fresh_src (show Blk _ _ 33 #[.string key, .int .i64 st, .slice A5 v.length c5, .bool dd] from X6.out.get (i := 0) rfl) Try.underlying44 rfl (by decide) rfl) (by omega) (Nat.zero_le _) ?_
                intro v' wx7 ho hg hf
                have X7 := Lib.hid (X6.out.step (i := 1) rfl (Turn.rowT (v := (.slice AR6 n cr6)) (n := n) (xs := hvCells hs) ho hg hf))
                obtain ⟨AR7, cr7, rfl, _, _⟩ := own_slice ho
                clear ho hg hf
                have p0 := Blk.cell (show Blk wx7 w.heap.size _ #[.string key, .int .i64 st, .slice A5 v.length c5, .bool dd] from X7.out.get (i := 3) rfl) 0
                have p1 := Blk.cell (show Blk wx7 w.heap.size _ #[.string key, .int .i64 st, .slice A5 v.length c5, .bool dd] from X7.out.get (i := 3) rfl) 1
                have p2 := Blk.cell (show Blk wx7 w.heap.size _ #[.string key, .int .i64 st, .slice A5 v.length c5, .bool dd] from X7.out.get (i := 3) rfl) 2
                have p3 := Blk.cell (show Blk wx7 w.heap.size _ #[.string key, .int .i64 st, .slice A5 v.length c5, .bool dd] from X7.out.get (i := 3) rfl) 3
                simp only [List.getElem?_toArray, List.getElem?_cons_zero, List.getElem?_cons_succ] at p0 p1 p2 p3
                refine hK'.out _ _ ⟨p0, p1, p2, p3⟩ (fun hHeld => ?_)
                clear hK' K' p0 p1 p2 p3
                try simp only [Act.put, List.getElem_toArray, List.getElem_cons_zero, List.getElem_cons_succ, List.setIfInBounds_toArray, List.set_cons_zero, List.set_cons_succ]
                refine wpAnyH_take (i := 6) (v := ?_) rfl (by kernel_rfl) (by kernel_rfl) (by kernel_rfl) (fun _ _ _ h => h) (Or.inl ⟨by rfl, ?_⟩) (by assumption) ?_
                rotate_left 1
                · (intro w hSw; (try dsimp only at hSw); go_simp; (try with_reducible rfl))
                try simp only [Act.put, List.getElem_toArray, List.getElem_cons_zero, List.getElem_cons_succ, List.setIfInBounds_toArray, List.set_cons_zero, List.set_cons_succ]
                refine wpAnyH_take (i := 7) (v := ?_) rfl (by kernel_rfl) (by kernel_rfl) (by kernel_rfl) (fun _ _ _ h => h) (Or.inl ⟨by rfl, ?_⟩) (by assumption) ?_
                rotate_left 1
                · (intro w hSw; (try dsimp only at hSw); go_simp; (try with_reducible rfl))
                try simp only [Act.put, List.getElem_toArray, List.getElem_cons_zero, List.getElem_cons_succ, List.setIfInBounds_toArray, List.set_cons_zero, List.set_cons_succ]
                refine wpAnyH_done (by kernel_rfl) ?_ _
                go_wp2
                go_ret2
                exact HFIN.out _ _ _ ((X7.out.by_ 5 rfl [1, 4, 2, 0, 3] (by decide)).sub (M := [_, _, _]) (List.Sublist.cons_cons _ (List.Sublist.cons_cons _ (List.Sublist.cons_cons _ (List.nil_sublist _)))))
        · rw [if_pos (by rfl)]
          obtain ⟨wx8, hw8⟩ : ∃ y, y = World.alloc wd (.cells #[.string key, .int .i64 st, .slice A5 v.length c5, .bool dd] 33) := ⟨_, rfl⟩
          have X8 := Lib.hid (show Turn _ w (Item.all (Item.blk (wd).heap.size 33 #[.string key, .int .i64 st, .slice A5 v.length c5, .bool dd] :: _)) wx8 from by
            rw [hw8]
            exact X8.out.more (y := Item.blk (wd).heap.size 33 #[.string key, .int .i64 st, .slice A5 v.length c5, .bool dd]) ((Below.refl _ _).alloc (Nat.le_refl _) _) (Blk.new _ _ _) (fun k hk => Nat.le_of_eq hk.symm))
          go_simp
          rw [← hw8]
          clear hw8
          have p0 := Blk.cell (show Blk wx8 w.heap.size _ #[.string key, .int .i64 st, .slice A5 v.length c5, .bool dd] from X8.out.get (i := 2) rfl) 0
          have p1 := Blk.cell (show Blk wx8 w.heap.size _ #[.string key, .int .i64 st, .slice A5 v.length c5, .bool dd] from X8.out.get (i := 2) rfl) 1
          have p2 := Blk.cell (show Blk wx8 w.heap.size _ #[.string key, .int .i64 st, .slice A5 v.length c5, .bool dd] from X8.out.get (i := 2) rfl) 2
          have p3 := Blk.cell (show Blk wx8 w.heap.size _ #[.string key, .int .i64 st, .slice A5 v.length c5, .bool dd] from X8.out.get (i := 2) rfl) 3
          simp only [List.getElem?_toArray, List.getElem?_cons_zero, List.getElem?_cons_succ] at p0 p1 p2 p3
          refine hK'.out _ _ ⟨p0, p1, p2, p3⟩ (fun hHeld => ?_)
          clear hK' K' p0 p1 p2 p3
          try simp only [Act.put, List.getElem_toArray, List.getElem_cons_zero, List.getElem_cons_succ, List.setIfInBounds_toArray, List.set_cons_zero, List.set_cons_succ]
          refine wpAnyH_ready (rs := [0]) (by kernel_rfl) (by simp) ?_
          refine AllReadyH.cons rfl (fun K' hK' => ?_) AllReadyH.nil
          · rw [if_pos (by rfl)]
            obtain ⟨wx9, hw9⟩ : ∃ y, y = World.alloc wx8 (.cells #[] 33) := ⟨_, rfl⟩
            have X9 := Lib.hid (show Turn _ w (Item.all (Item.rowT 33 4 (.slice (some ⟨(wx8).heap.size, 0, none⟩) 0 0) 0 [] :: _)) wx9 from by
              rw [hw9]
              exact X8.out.more (y := Item.rowT 33 4 (.slice (some ⟨(wx8).heap.size, 0, none⟩) 0 0) 0 []) ((Below.refl _ _).alloc (Nat.le_refl _) _) (row_new rfl (by decide)) (fun k hk => own_new hk))
            go_simp
            rw [← hw9]
            clear hw9
            have p0 := Blk.cell (show Blk wx9 w.heap.size _ #[.string key, .int .i64 st, .slice A5 v.length c5, .bool dd] from X9.out.get (i := 3) rfl) 0
            have p1 := Blk.cell (show Blk wx9 w.heap.size _ #[.string key, .int .i64 st, .slice A5 v.length c5, .bool dd] from X9.out.get (i := 3) rfl) 1
            have p2 := Blk.cell (show Blk wx9 w.heap.size _ #[.string key, .int .i64 st, .slice A5 v.length c5, .bool dd] from X9.out.get (i := 3) rfl) 2
            have p3 := Blk.cell (show Blk wx9 w.heap.size _ #[.string key, .int .i64 st, .slice A5 v.length c5, .bool dd] from X9.out.get (i := 3) rfl) 3
            simp only [List.getElem?_toArray, List.getElem?_cons_zero, List.getElem?_cons_succ] at p0 p1 p2 p3
            refine hK'.out _ _ ⟨p0, p1, p2, p3⟩ (fun hHeld => ?_)
            clear hK' K' p0 p1 p2 p3
            try simp only [Act.put, List.getElem_toArray, List.getElem_cons_zero, List.getElem_cons_succ, List.setIfInBounds_toArray, List.set_cons_zero, List.set_cons_succ]
            refine wpAnyH_ready (rs := [2]) (by kernel_rfl) (by simp) ?_
            refine AllReadyH.cons rfl (fun K' hK' => ?_) AllReadyH.nil
            · rw [if_pos (by rfl)]
              refine wp_append_any _ rfl 0 Try.underlying44 info_ver rfl (by decide) (by decide) rfl (X9.out.get (i := 0) rfl) rfl (Reads.src (Reads.of_own (Item.all_get (X9.out.get (i := 4) rfl) (List.mem_cons_self ..))) Try.underlying44 c (hv_ones hs)) (by omega) (Nat.zero_le _) ?_
              intro v' wx10 ho hg hf
              rw [Nat.zero_add, List.nil_append] at ho
              have X10 := Lib.hid (X9.out.step (i := 0) rfl (Turn.rowT (v := (.slice (some ⟨(wx8).heap.size, 0, none⟩) 0 0)) (n := 0) (xs := []) ho hg hf))
              obtain ⟨AR10, cr10, rfl, _, _⟩ := own_slice ho
              clear ho hg hf
              have p0 := Blk.cell (show Blk wx10 w.heap.size _ #[.string key, .int .i64 st, .slice A5 v.length c5, .bool dd] from X10.out.get (i := 3) rfl) 0
              have p1 := Blk.cell (show Blk wx10 w.heap.size _ #[.string key, .int .i64 st, .slice A5 v.length c5, .bool dd] from X10.out.get (i := 3) rfl) 1
              have p2 := Blk.cell (show Blk wx10 w.heap.size _ #[.string key, .int .i64 st, .slice A5 v.length c5, .bool dd] from X10.out.get (i := 3) rfl) 2
              have p3 := Blk.cell (show Blk wx10 w.heap.size _ #[.string key, .int .i64 st, .slice A5 v.length c5, .bool dd] from X10.out.get (i := 3) rfl) 3
              simp only [List.getElem?_toArray, List.getElem?_cons_zero, List.getElem?_cons_succ] at p0 p1 p2 p3
              refine hK'.out _ _ ⟨p0, p1, p2, p3⟩ (fun hHeld => ?_)
              clear hK' K' p0 p1 p2 p3
              try simp only [Act.put, List.getElem_toArray, List.getElem_cons_zero, List.getElem_cons_succ, List.setIfInBounds_toArray, List.set_cons_zero, List.set_cons_succ]
              refine wpAnyH_ready (rs := [5]) (by kernel_rfl) (by simp) ?_
              refine AllReadyH.cons rfl (fun K' hK' => ?_) AllReadyH.nil
              · rw [if_pos (by rfl)]
                refine wp_append_any _ rfl 0 Try.underlying44 info_ver rfl (by decide) (by decide) rfl (X10.out.get (i := 0) rfl) rfl (fresh_src (show Blk _ _ 33 #[.string key, .int .i64 st, .slice A5 v.length c5, .bool dd] from X10.out.get (i := 1) rfl) Try.underlying44 rfl (by decide) rfl) (by omega) (Nat.zero_le _) ?_
                intro v' wx11 ho hg hf
                have X11 := Lib.hid (X10.out.step (i := 0) rfl (Turn.rowT (v := (.slice AR10 n cr10)) (n := n) (xs := hvCells hs) ho hg hf))
                obtain ⟨AR11, cr11, rfl, _, _⟩ := own_slice ho
                clear ho hg hf
                have p0 := Blk.cell (show Blk wx11 w.heap.size _ #[.string key, .int .i64 st, .slice A5 v.length c5, .bool dd] from X11.out.get (i := 3) rfl) 0
                have p1 := Blk.cell (show Blk wx11 w.heap.size _ #[.string key, .int .i64 st, .slice A5 v.length c5, .bool dd] from X11.out.get (i := 3) rfl) 1
                have p2 := Blk.cell (show Blk wx11 w.heap.size _ #[.string key, .int .i64 st, .slice A5 v.length c5, .bool dd] from X11.out.get (i := 3) rfl) 2
                have p3 := Blk.cell (show Blk wx11 w.heap.size _ #[.string key, .int .i64 st, .slice A5 v.length c5, .bool dd] from X11.out.get (i := 3) rfl) 3
                simp only [List.getElem?_toArray, List.getElem?_cons_zero, List.getElem?_cons_succ] at p0 p1 p2 p3
                refine hK'.out _ _ ⟨p0, p1, p2, p3⟩ (fun hHeld => ?_)
                clear hK' K' p0 p1 p2 p3
                try simp only [Act.put, List.getElem_toArray, List.getElem_cons_zero, List.getElem_cons_succ, List.setIfInBounds_toArray, List.set_cons_zero, List.set_cons_succ]
                refine wpAnyH_take (i := 6) (v := ?_) rfl (by kernel_rfl) (by kernel_rfl) (by kernel_rfl) (fun _ _ _ h => h) (Or.inl ⟨by rfl, ?_⟩) (by assumption) ?_
                rotate_left 1
                · (intro w hSw; (try dsimp only at hSw); go_simp; (try with_reducible rfl))
                try simp only [Act.put, List.getElem_toArray, List.getElem_cons_zero, List.getElem_cons_succ, List.setIfInBounds_toArray, List.set_cons_zero, List.set_cons_succ]
                refine wpAnyH_take (i := 7) (v := ?_) rfl (by kernel_rfl) (by kernel_rfl) (by kernel_rfl) (fun _ _ _ h => h) (Or.inl ⟨by rfl, ?_⟩) (by assumption) ?_
                rotate_left 1
                · (intro w hSw; (try dsimp only at hSw); go_simp; (try with_reducible rfl))
                try simp only [Act.put, List.getElem_toArray, List.getElem_cons_zero, List.getElem_cons_succ, List.setIfInBounds_toArray, List.set_cons_zero, List.set_cons_succ]
                refine wpAnyH_done (by kernel_rfl) ?_ _
                go_wp2
                go_ret2
                exact HFIN.out _ _ _ ((X11.out.by_ 5 rfl [0, 4, 2, 1, 3] (by decide)).sub (M := [_, _, _]) (List.Sublist.cons_cons _ (List.Sublist.cons_cons _ (List.Sublist.cons_cons _ (List.nil_sublist _)))))
end Go.Proofs.Ytoecgkdipgaaeaa
/- The reference's store: Keys, by contract. -/
namespace Go.Proofs.Ytoecgkdipgaaeaa
open Go.RowKit Go.Sort Go.Shelf

theorem encStr_key (key : ByteArray) : encStr key.data.toList = .string key := by
  unfold encStr
  rw [Array.toArray_toList]
def sortK (ks : List Key) : List Key := ks.mergeSort fun x y => decide (x ≤ y)
theorem sortK_len (ks : List Key) : (sortK ks).length = ks.length := List.length_mergeSort _
theorem strings_any {w : World} {v : Value} {n : Nat} {ks : List Key} (h : (Item.rowT 9 1 v n (ks.map encStr)).P w) (hn : n = ks.length) (hl : n ≤ 1099511627776) :
    Calls Try.prog 98 #[v] w fun e w' => e = .returned (.tuple #[]) ∧ Turn (Item.rowT 9 1 v n (ks.map encStr)) w (Item.rowT 9 1 v n ((sortK ks).map encStr)) w' := by
  have hrow : w.ownsRow 0 9 1 v n (ks.map encStr) := h
  subst hn
  rcases hrow.2 with ⟨hv, h0⟩ | ⟨g, cap, cur, rfl, hbase, hb, h1, h2, h3, h4⟩
  · have hk : ks = [] := List.length_eq_zero_iff.1 h0
    subst hk
    obtain ⟨A1, c1, rfl, _, _⟩ := own_slice hrow
    refine (Any.sort_Strings_none Try.stringsL A1 c1 w).mono ?_
    rintro e w' ⟨rfl, rfl⟩
    rw [show sortK ([] : List Key) = [] from by unfold sortK; simp]
    exact ⟨rfl, Turn.refl h⟩
  · refine (Any.sort_Strings Try.stringsL g 0 cap ks w (holds_of_block hb (by simpa using h4)) (Array.getElem?_eq_some_iff.1 hb).1 (by omega)).mono ?_
    rintro e w' ⟨rfl, m, os, rfl⟩
    refine ⟨rfl, Turn.rowT ?_ (grownBy_sorted _) (.inl rfl)⟩
    exact ownsRow_sorted (sortK_len ks) hbase hb h1 h2 h3
/-- One behind the other, without those that are the same. -/
def ddK (l : List Key) : List Key := l.foldl (fun acc k => if acc.getLast? = some k then acc else acc ++ [k]) []
theorem ddK_snoc (l : List Key) (k : Key) : ddK (l ++ [k]) = if (ddK l).getLast? = some k then ddK l else ddK l ++ [k] := by
  unfold ddK
  rw [List.foldl_append]; rfl
theorem ddK_last : ∀ (l : List Key), (ddK l).getLast? = l.getLast? := fun l => by
  rcases List.eq_nil_or_concat l with rfl | ⟨m, k, rfl⟩
  · rfl
  · rw [List.concat_eq_append, ddK_snoc]
    split
    · rename_i h; rw [h, List.getLast?_concat]
    · rw [List.getLast?_concat, List.getLast?_concat]
theorem ddK_mem : ∀ (l : List Key) (x : Key), x ∈ ddK l ↔ x ∈ l := fun l => by
  generalize hn : l.length = n
  induction n generalizing l with
  | zero => intro x; rw [List.length_eq_zero_iff.1 hn]; rfl
  | succ n ih =>
    intro x
    rcases List.eq_nil_or_concat l with rfl | ⟨m, k, rfl⟩
    · cases hn
    · rw [List.concat_eq_append] at hn ⊢
      have hm : m.length = n := by rw [List.length_append, List.length_singleton] at hn; omega
      rw [ddK_snoc]
      split
      · rename_i h
        rw [ih m hm, List.mem_append, List.mem_singleton]
        constructor
        · exact .inl
        · rintro (h2 | rfl)
          · exact h2
          · exact (ih m hm _).1 (List.mem_of_getLast? h)
      · rw [List.mem_append, List.mem_append, ih m hm]
theorem ddK_up : ∀ (l : List Key), (l.Pairwise fun a b => a ≤ b) → (ddK l).Pairwise fun a b => bytesBefore a b = true := fun l => by
  generalize hn : l.length = n
  induction n generalizing l with
  | zero => intro _; rw [List.length_eq_zero_iff.1 hn]; exact List.Pairwise.nil
  | succ n ih =>
    intro hp
    rcases List.eq_nil_or_concat l with rfl | ⟨m, k, rfl⟩
    · cases hn
    · rw [List.concat_eq_append] at hn hp ⊢
      have hm : m.length = n := by rw [List.length_append, List.length_singleton] at hn; omega
      obtain ⟨p1, _, p3⟩ := List.pairwise_append.1 hp
      rw [ddK_snoc]
      split
      · exact ih m hm p1
      · rename_i h
        refine List.pairwise_append.2 ⟨ih m hm p1, List.pairwise_singleton _ _, fun a ha b hb => ?_⟩
        rw [List.mem_singleton.1 hb]
        have ham := (ddK_mem m a).1 ha
        have hle := p3 a ham k (List.mem_singleton_self _)
        have hne : a ≠ k := by
          intro e
          rw [e] at ha ham
          have hmn : m ≠ [] := List.ne_nil_of_mem ham
          apply h
          rw [ddK_last, List.getLast?_eq_some_getLast hmn]
          congr 1
          have h1 := p3 (m.getLast hmn) (List.getLast_mem hmn) k (List.mem_singleton_self _)
          have h2 : k ≤ m.getLast hmn := by
            rw [← List.dropLast_concat_getLast hmn] at ham p1
            rcases List.mem_append.1 ham with h3 | h3
            · exact (List.pairwise_append.1 p1).2.2 k h3 _ (List.mem_singleton_self _)
            · rw [List.mem_singleton.1 h3]; exact List.le_refl _
          exact List.le_antisymm h1 h2
        rcases bB_total hne with h3 | h3
        · exact h3
        · exact absurd (bB_lt.1 h3) (List.not_lt.2 hle)
/-- The keys of a list of versions, rising. -/
def keysR (R : List Vn) : List Key := ddK (sortK (R.map Vn.k))
theorem keysR_up (R : List Vn) : (keysR R).Pairwise fun a b => bytesBefore a b = true := by
  refine ddK_up _ ?_
  have h1 := List.pairwise_mergeSort (le := fun x y : Key => decide (x ≤ y)) (fun a b c h1 h2 => by simp only [decide_eq_true_eq] at *; exact List.le_trans h1 h2) (fun a b => by simp only [Bool.or_eq_true, decide_eq_true_eq]; exact List.le_total a b) (R.map Vn.k)
  exact h1.imp fun h => of_decide_eq_true h
theorem keysR_mem (R : List Vn) (k : Key) : k ∈ keysR R ↔ ∃ v ∈ R, v.k = k := by
  unfold keysR
  rw [ddK_mem]
  unfold sortK
  rw [(List.mergeSort_perm _ _).mem_iff, List.mem_map]
theorem rising_one : ∀ {l m : List Key}, (l.Pairwise fun a b => bytesBefore a b = true) → (m.Pairwise fun a b => bytesBefore a b = true) → (∀ x, x ∈ l ↔ x ∈ m) → l = m := fun {l m} h1 h2 h => by
  refine List.Perm.eq_of_pairwise (le := fun x y : Key => x ≤ y) (fun a b _ _ hab hba => List.le_antisymm hab hba) (h1.imp fun {a b} h => List.le_of_lt (bB_lt.1 h)) (h2.imp fun {a b} h => List.le_of_lt (bB_lt.1 h)) ?_
  have n1 : l.Nodup := h1.imp fun {a b} h e => by rw [e, bB_irrefl] at h; cases h
  have n2 : m.Nodup := h2.imp fun {a b} h e => by rw [e, bB_irrefl] at h; cases h
  exact (List.perm_ext_iff_of_nodup n1 n2).2 h
end Go.Proofs.Ytoecgkdipgaaeaa
/- The reference's store: Keys, the walk. -/
namespace Go.Proofs.Ytoecgkdipgaaeaa
open Go.RowKit Go.Sort Go.Shelf

theorem info_str : (Try.prog.info? 9).map (fun i => (i.zero, i.size, i.bytes)) = some (some (.string ⟨#[]⟩), 1, 16) := by kernel_rfl
def KeyPost (l : List Vn) (w : World) (e : Ending) (w' : World) : Prop :=
  ∃ (A' : Option Addr) (n c' : Nat), n = (keysR l).length ∧ e = .returned (.slice A' n c') ∧ Turn (Item.all []) w (Item.all [Item.rowT 9 1 (.slice A' n c') n ((keysR l).map encStr)]) w'
/-- What holds in the second loop: so many of the sorted keys are looked at. -/
def KeyIn (w : World) (ks : List Key) (A : Option Addr) (N c K m c' : Nat) (A' : Option Addr) (wr : World) : Prop :=
  (ddK (ks.take K)).length = m ∧ Turn (Item.all []) w (Item.all [Item.rowT 9 1 (.slice A N c) N (ks.map encStr), Item.rowT 9 1 (.slice A' m c') m ((ddK (ks.take K)).map encStr)]) wr
set_option maxRecDepth 100000 in
set_option maxHeartbeats 12800000 in
theorem rkeys_any {w : World} {B : Nat} {A : Option Addr} {c : Nat} {l : List Vn} (hS : kVn.Sl w B A l) (hB : B ≤ w.heap.size) (hl : l.length ≤ 1000000000) :
    Calls Try.prog 69 #[.slice A l.length c] w (KeyPost l w) := by
  have HS := Lib.hid hS
  have HB0 := Lib.hid hB
  obtain ⟨N, hN⟩ : ∃ N, N = l.length := ⟨_, rfl⟩
  have HN := Lib.hid hN
  rw [← hN] at hl ⊢
  have T0 := Lib.hid (show Turn (Item.all []) w (Item.all [Item.rowT 9 1 (.slice none 0 0) 0 (((l.take 0).map Vn.k).map encStr)]) w from (Turn.none_ (w := w)).more (Below.refl _ _) (World.ownsRow_nil _ _ _ _) (fun k hk => by cases hk))
  clear hS hB hN
  go_enter Try.func69, Try.ntmps69
  go_wp2
  go_loopw [11, 3] (fun t u wr => ∃ (K c' : Nat) (A' : Option Addr), t = .int .i64 K ∧ u = .slice A' K c' ∧ K ≤ N ∧ Hid (Turn (Item.all []) w (Item.all [Item.rowT 9 1 (.slice A' K c') K (((l.take K).map Vn.k).map encStr)]) wr)) (fun t _ _ => N - (intOf t).toNat)
  case atStart => exact ⟨0, 0, none, rfl, rfl, Nat.zero_le _, T0⟩
  case round =>
    clear T0
    obtain ⟨K, c', A', rfl, rfl, hK, hH⟩ := hrel
    by_cases hlt : (K : Int) < (N : Int)
    · have hKl : K < l.length := by have := HN.out; omega
      have hKi : K + 1 ≤ N := by omega
      have hbw := hH.out.free
      obtain ⟨bb, off, Av, cv, hA, hbb, hints, s0, s1, s2, s3, hval, hvc⟩ := vn_at (HS.out.keep (fun p hp => hbw.cell (Nat.lt_of_lt_of_le hp HB0.out))) hKl
      subst hA
      obtain ⟨x, hx⟩ : ∃ x, x = l[K] := ⟨_, rfl⟩
      rw [← hx] at s0 s1 s2 s3
      have HX := Lib.hid hx
      obtain ⟨xk, xs, xv, xd⟩ := x
      simp only at s0 s1 s2 s3
      have hbr : bb < wr.heap.size := Nat.lt_of_lt_of_le (Nat.lt_of_lt_of_le hbb HB0.out) hbw.size
      obtain ⟨w2, hw2⟩ : ∃ y, y = wr.alloc (.cells #[.string xk, .int .i64 xs, .slice Av xv.length cv, .bool xd] 33) := ⟨_, rfl⟩
      have HW2 := Lib.hid hw2
      have T2 := Lib.hid (show Turn (Item.all []) w (Item.all [Item.rowT 9 1 (.slice A' K c') K (((l.take K).map Vn.k).map encStr)]) w2 from by rw [hw2]; exact hH.out.go ((Below.refl _ _).alloc (Nat.le_refl _) _))
      have hq0 : w2.cell? ⟨wr.heap.size, 0, none⟩ = some (.string xk) := by
        rw [hw2]
        have := Blk.cell (Blk.new wr 33 #[.string xk, .int .i64 xs, .slice Av xv.length cv, .bool xd]) 0
        simpa using this
      clear hx hval hvc hints hbb hbw
      go_upto_region 5 with fail
      rw [← HW2.out]
      clear s0 s1 s2 s3 hbr hw2
      go_wp2_with (at_builtin; refine Stop.of ?_)
      have T3 := Lib.hid (T2.out.go ((Below.refl w2.heap.size w2).alloc (Nat.le_refl _) (.cells #[.string xk] 9)))
      refine ⟨wpList_append_any _ rfl rfl 0 Try.underlying106 info_str rfl (by decide) (by decide) rfl (T3.out.get (i := 0) rfl) rfl (fresh_src (Blk.new w2 9 #[.string xk]) Try.underlying106 rfl (by decide) rfl) (by omega) (Nat.zero_le _) ?_⟩
      intro v' w3 ho hg hf
      have t4 := T3.out.step (i := 0) rfl (Turn.rowT (v := .slice A' K c') (n := K) (xs := ((l.take K).map Vn.k).map encStr) ho hg hf)
      obtain ⟨A3, c3, rfl, _, _⟩ := own_slice ho
      have HR := Lib.hid (show Turn (Item.all []) w (Item.all [Item.rowT 9 1 (.slice A3 (K + 1) c3) (K + 1) (((l.take (K + 1)).map Vn.k).map encStr)]) w3 from by
        have hK3 : K < l.length := by have := HN.out; omega
        rw [List.take_succ_eq_append_getElem hK3, List.map_append, List.map_append, ← HX.out, List.map_singleton, List.map_singleton, show encStr (Vn.k ⟨xk, xs, xv, xd⟩) = .string xk from encStr_key xk]
        exact t4)
      clear ho hg hf t4 T2 T3 hH HX hq0 HW2
      go_wp2
      exact ⟨⟨K + 1, c3, A3, by go_num, rfl, hKi, HR⟩, by simp [intOf]; omega⟩
    · obtain rfl : K = N := by omega
      have T5 := Lib.hid hH.out
      rw [List.take_of_length_le (by rw [← HN.out]; exact Nat.le_refl _)] at T5
      clear hH
      have HST := Lib.hid (strings_any (ks := l.map Vn.k) (T5.out.get (i := 0) rfl) (by rw [List.length_map, ← HN.out]) (by omega))
      go_wp2_with fail
      refine HST.out.mono ?_
      rintro e w6 ⟨rfl, t6⟩
      obtain ⟨ks, hks⟩ : ∃ ks, ks = sortK (l.map Vn.k) := ⟨_, rfl⟩
      rw [← hks] at t6
      have HKS := Lib.hid hks
      have HKL := Lib.hid (show ks.length = K from by rw [hks, sortK_len, List.length_map, ← HN.out])
      have T6 := Lib.hid (show KeyIn w ks A' K c' 0 0 0 none w6 from ⟨rfl, ((T5.out.step (i := 0) rfl t6).more (y := Item.rowT 9 1 (.slice none 0 0) 0 []) (Below.refl _ _) (World.ownsRow_nil _ _ _ _) (fun k hk => by cases hk)).by_ 2 rfl [1, 0] (by decide)⟩)
      clear t6 hks HST T5
      go_wp2
      go_loopw [25, 6] (fun t u wr => ∃ (K2 m c2 : Nat) (A2 : Option Addr), t = .int .i64 K2 ∧ u = .slice A2 m c2 ∧ K2 ≤ K ∧ m ≤ K2 ∧ Hid (KeyIn w ks A' K c' K2 m c2 A2 wr)) (fun t _ _ => K - (intOf t).toNat)
      case atStart => exact ⟨0, 0, 0, none, rfl, rfl, Nat.zero_le _, Nat.le_refl _, T6⟩
      case round =>
        clear T6
        obtain ⟨K2, m, c2, A2, rfl, rfl, hK2, hm2, hH⟩ := hrel
        by_cases hlt2 : (K2 : Int) < (K : Int)
        · have hKl : K2 < ks.length := by have := HKL.out; omega
          have hKi : K2 + 1 ≤ K := by omega
          have HLN := Lib.hid hH.out.1
          have T7 := Lib.hid hH.out.2
          obtain ⟨bb, off, hA, hbb, hcell⟩ := (Reads.of_own (T7.out.get (i := 0) rfl)).2 (by omega)
          subst hA
          have HC := Lib.hid hcell
          obtain ⟨kk, hkk⟩ : ∃ k, k = ks[K2] := ⟨_, rfl⟩
          have HKK := Lib.hid hkk
          have r0 : wr.cell? ⟨bb, off + K2, none⟩ = some (.string ⟨kk.toArray⟩) := hcell K2 _ (by rw [List.getElem?_map, List.getElem?_eq_getElem hKl, hkk]; rfl)
          have HTK := Lib.hid (show ks.take (K2 + 1) = ks.take K2 ++ [kk] from by rw [hkk]; exact List.take_succ_eq_append_getElem hKl)
          clear hcell hkk hH
          rcases Nat.eq_zero_or_pos K2 with hz | hz
          · subst hz
            have hm0 : m = 0 := by omega
            subst hm0
            have r00 : wr.cell? ⟨bb, off, none⟩ = some (.string ⟨kk.toArray⟩) := r0
            clear r0
            have HD := Lib.hid (show ddK (ks.take (0 + 1)) = ddK (ks.take 0) ++ [kk] from by rw [HTK.out, ddK_snoc, if_neg (by simp [ddK])])
            go_wp2_with (at_builtin; refine Stop.of ?_)
            have T8 := Lib.hid (T7.out.go ((Below.refl wr.heap.size wr).alloc (Nat.le_refl _) (.cells #[.string ⟨kk.toArray⟩] 9)))
            refine ⟨wpList_append_any _ rfl rfl 0 Try.underlying106 info_str rfl (by decide) (by decide) rfl (T8.out.get (i := 1) rfl) rfl (fresh_src (Blk.new wr 9 #[.string ⟨kk.toArray⟩]) Try.underlying106 rfl (by decide) rfl) (by omega) (Nat.zero_le _) ?_⟩
            intro v' w8 ho hg hf
            have t9 := T8.out.step (i := 1) rfl (Turn.rowT (v := .slice A2 0 c2) (n := 0) (xs := (ddK (ks.take 0)).map encStr) ho hg hf)
            obtain ⟨A9, c9, rfl, _, _⟩ := own_slice ho
            have HRE := Lib.hid (show KeyIn w ks (some ⟨bb, off, none⟩) K c' (0 + 1) (0 + 1) c9 A9 w8 from by
              unfold KeyIn
              rw [HD.out]
              exact ⟨by rw [List.length_append, HLN.out]; rfl, by rw [List.map_append]; exact t9⟩)
            clear ho hg hf t9 T7 T8 HC
            go_wp2
            exact ⟨⟨0 + 1, 0 + 1, c9, A9, by go_num, rfl, hKi, by omega, HRE⟩, by simp [intOf]; omega⟩
          · obtain ⟨J, hJ⟩ : ∃ J, K2 = J + 1 := ⟨K2 - 1, by omega⟩
            have hJl : J < ks.length := by omega
            obtain ⟨kj, hkj⟩ : ∃ k, k = ks[J] := ⟨_, rfl⟩
            have r1 : wr.cell? ⟨bb, off + J, none⟩ = some (.string ⟨kj.toArray⟩) := HC.out J _ (by rw [List.getElem?_map, List.getElem?_eq_getElem hJl, hkj]; rfl)
            have HLA := Lib.hid (show (ddK (ks.take K2)).getLast? = some kj from by
              rw [ddK_last, hJ, List.take_succ_eq_append_getElem hJl, List.getLast?_concat, hkj])
            have hJn : J < K2 := by omega
            have hJN : J < K := by omega
            have hJw : IntKind.i64.wrap ((K2 : Int) - 1) = (J : Int) := by rw [IntKind.wrap_i64]; omega
            have hJ1 : (K2 : Int) - 1 = (J : Int) := by omega
            have hJi : (J : Int) < (K : Int) := by omega
            have hJw2 : IntKind.i64.wrap (J : Int) = (J : Int) := by rw [IntKind.wrap_i64]; omega
            have hJ0 : (0 : Int) ≤ (J : Int) := by omega
            have f1 : ((K2 : Int) == 0) = false := beq_false_of_ne (by omega)
            have f2 : decide ((K2 : Int) = 0) = false := decide_eq_false (by omega)
            have f3 : decide (K2 = 0) = false := decide_eq_false (by omega)
            clear hz hJ hJl hkj
            cases hE : (kj == kk) with
            | true =>
              have HRE := Lib.hid (show KeyIn w ks (some ⟨bb, off, none⟩) K c' (K2 + 1) m c2 A2 wr from by
                have h1 : ddK (ks.take (K2 + 1)) = ddK (ks.take K2) := by rw [HTK.out, ddK_snoc, if_pos (by rw [HLA.out, beq_iff_eq.1 hE])]
                unfold KeyIn
                rw [h1]
                exact ⟨HLN.out, T7.out⟩)
              clear T7 HC
              go_wp2
              exact ⟨⟨K2 + 1, m, c2, A2, by go_num, rfl, hKi, by omega, HRE⟩, by simp [intOf]; omega⟩
            | false =>
              have HD := Lib.hid (show ddK (ks.take (K2 + 1)) = ddK (ks.take K2) ++ [kk] from by rw [HTK.out, ddK_snoc, if_neg (by rw [HLA.out]; intro h; injection h with h; rw [h, beq_self_eq_true] at hE; cases hE)])
              go_wp2_with (at_builtin; refine Stop.of ?_)
              have T8 := Lib.hid (T7.out.go ((Below.refl wr.heap.size wr).alloc (Nat.le_refl _) (.cells #[.string ⟨kk.toArray⟩] 9)))
              refine ⟨wpList_append_any _ rfl rfl 0 Try.underlying106 info_str rfl (by decide) (by decide) rfl (T8.out.get (i := 1) rfl) rfl (fresh_src (Blk.new wr 9 #[.string ⟨kk.toArray⟩]) Try.underlying106 rfl (by decide) rfl) (by omega) (Nat.zero_le _) ?_⟩
              intro v' w8 ho hg hf
              have t9 := T8.out.step (i := 1) rfl (Turn.rowT (v := .slice A2 m c2) (n := m) (xs := (ddK (ks.take K2)).map encStr) ho hg hf)
              obtain ⟨A9, c9, rfl, _, _⟩ := own_slice ho
              have HRE := Lib.hid (show KeyIn w ks (some ⟨bb, off, none⟩) K c' (K2 + 1) (m + 1) c9 A9 w8 from by
                unfold KeyIn
                rw [HD.out]
                exact ⟨by rw [List.length_append, HLN.out]; rfl, by rw [List.map_append]; exact t9⟩)
              clear ho hg hf t9 T7 T8 HC
              go_wp2
              exact ⟨⟨K2 + 1, m + 1, c9, A9, by go_num, rfl, hKi, by omega, HRE⟩, by simp [intOf]; omega⟩
        · obtain rfl : K2 = K := by omega
          have HRE := Lib.hid (show KeyPost l w (.returned (.slice A2 m c2)) wr from by
            have h1 := hH.out.1
            have h2 := hH.out.2
            rw [List.take_of_length_le (by rw [HKL.out]; exact Nat.le_refl _)] at h1 h2
            rw [HKS.out] at h1 h2
            exact ⟨A2, m, c2, h1.symm, rfl, h2.sub (List.Sublist.cons _ (List.Sublist.refl _))⟩)
          clear hH
          go_wp2
          go_ret
          exact HRE.out
end Go.Proofs.Ytoecgkdipgaaeaa
