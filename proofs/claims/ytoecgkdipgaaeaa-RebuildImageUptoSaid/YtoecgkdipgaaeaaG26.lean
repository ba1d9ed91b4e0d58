/- Contracts and plain laws that this claim leans on, laid together: RefS1. -/
import Derived.Test.YtoecgkdipgaaeaaG22
set_option linter.all false
set_option linter.unusedVariables false
set_option linter.unusedSimpArgs false
set_option linter.unnecessarySimpa false
/- The reference's store: newest, last, by contract. -/
namespace Go.Proofs.Ytoecgkdipgaaeaa
open Go.RowKit

/-- The newest version of a key up to a stamp, as the reference finds it. -/
def newS (key : ByteArray) (st : Int) (b : Option Vn) (v : Vn) : Option Vn := if v.key = key ∧ v.stamp ≤ st ∧ (∀ x, b = some x → x.stamp < v.stamp) then some v else b
def newL (l : List Vn) (key : ByteArray) (st : Int) : Option Vn := l.foldl (newS key st) none
theorem newL_snoc {l : List Vn} {key : ByteArray} {st : Int} {K : Nat} (h : K < l.length) {x : Vn} (hx : x = l[K]) : newL (l.take (K + 1)) key st = newS key st (newL (l.take K) key st) x := by
  subst hx
  unfold newL
  rw [List.take_succ_eq_append_getElem h, List.foldl_append]; rfl
def vz : Vn := ⟨⟨#[]⟩, 0, [], false⟩
def NewPost (o : Option Vn) (w : World) (e : Ending) (w' : World) : Prop := (∃ A c, e = .returned (.tuple #[.agg ((o.getD vz).cells A c), .bool o.isSome])) ∧ Below w.heap.size w w'
/-- What holds at each round: the best so far lies in its variable. -/
def NewIn (w : World) (l : List Vn) (key : ByteArray) (st : Int) (g6 g8 K : Nat) (b : Bool) (wr : World) : Prop :=
  ∃ (A : Option Addr) (c : Nat), b = (newL (l.take K) key st).isSome ∧ Turn (Item.all []) w (Item.all [Item.blk g6 33 (vz.cells none 0), Item.blk g8 33 (((newL (l.take K) key st).getD vz).cells A c)]) wr
set_option maxRecDepth 100000 in
set_option maxHeartbeats 6400000 in
theorem rnewest_any {w : World} {B : Nat} {A : Option Addr} {c : Nat} {l : List Vn} (hS : kVn.Sl w B A l) (hB : B ≤ w.heap.size) (hl : l.length ≤ 1099511627776) (key : ByteArray) (st : Int) :
    Calls Try.prog 95 #[.slice A l.length c, .string key, .int .i64 st] w (NewPost (newL l key st) w) := by
  have HS := Lib.hid hS
  obtain ⟨N, hN⟩ : ∃ N, N = l.length := ⟨_, rfl⟩
  have HN := Lib.hid hN
  rw [← hN] at hl ⊢
  clear hS hN
  go_enter Try.func95, Try.ntmps95
  go_upto_region 2 with fail
  obtain ⟨w1, hw1⟩ : ∃ x, x = w.alloc (.cells #[.string ⟨#[]⟩, .int .i64 0, .slice none 0 0, .bool false] 33) := ⟨_, rfl⟩
  obtain ⟨w2, hw2⟩ : ∃ x, x = w1.alloc (.cells #[.string ⟨#[]⟩, .int .i64 0, .slice none 0 0, .bool false] 33) := ⟨_, rfl⟩
  have T2 := Lib.hid (show NewIn w l key st w.heap.size w1.heap.size 0 false w2 from ⟨none, 0, by rw [List.take_zero]; rfl, by
    have t1 : Turn (Item.all []) w (Item.all [Item.blk w.heap.size 33 (vz.cells none 0)]) w1 := by
      rw [hw1]
      exact (Turn.none_ (w := w)).more (y := Item.blk w.heap.size 33 (vz.cells none 0)) ((Below.refl _ _).alloc (Nat.le_refl _) _) (Blk.new _ _ _) (fun k hk => Nat.le_of_eq hk.symm)
    rw [hw2]
    exact (t1.more (y := Item.blk w1.heap.size 33 (vz.cells none 0)) ((Below.refl _ _).alloc (Nat.le_refl _) _) (Blk.new _ _ _) (fun k hk => Nat.le_of_eq hk.symm)).by_ 2 rfl [1, 0] (by decide)⟩)
  go_wp2
  rw [← hw1, ← hw2]
  obtain ⟨g6, hg6⟩ : ∃ g, g = w.heap.size := ⟨_, rfl⟩
  obtain ⟨g8, hg8⟩ : ∃ g, g = w1.heap.size := ⟨_, rfl⟩
  have hs1 : w.heap.size + 1 = w1.heap.size := by rw [hw1]; simp
  try rw [hs1]
  rw [← hg6, ← hg8] at T2
  have HG6 := Lib.hid hg6
  have HB0 := Lib.hid hB
  rw [← hg8]
  try rw [← hg6]
  clear hw1 hw2 hs1 hg8 hg6
  go_loopw [15, 9] (fun t u wr => ∃ (K : Nat) (b : Bool), t = .int .i64 K ∧ u = .bool b ∧ K ≤ N ∧ Hid (NewIn w l key st g6 g8 K b wr)) (fun t _ _ => N - (intOf t).toNat)
  case atStart => exact ⟨0, false, rfl, rfl, Nat.zero_le _, T2⟩
  case round =>
    clear T2
    obtain ⟨K, b, rfl, rfl, hK, hH⟩ := hrel
    by_cases hlt : (K : Int) < (N : Int)
    · have hKl : K < l.length := by have := HN.out; omega
      have hKi : K + 1 ≤ N := by omega
      obtain ⟨A8, c8, hb, hT⟩ := hH.out
      have hbw := hT.free
      obtain ⟨bb, off, Av, cv, hA, hbb, hints, s0, s1, s2, s3, hval, hvc⟩ := vn_at (HS.out.keep (fun p hp => hbw.cell (Nat.lt_of_lt_of_le hp HB0.out))) hKl
      subst hA
      obtain ⟨x, hx⟩ : ∃ x, x = l[K] := ⟨_, rfl⟩
      rw [← hx] at s0 s1 s2 s3
      have HNS := Lib.hid (newL_snoc (key := key) (st := st) hKl hx)
      obtain ⟨xk, xs, xv, xd⟩ := x
      simp only at s0 s1 s2 s3
      obtain ⟨o, ho⟩ : ∃ o, o = newL (l.take K) key st := ⟨_, rfl⟩
      rw [← ho] at hb hT HNS
      have HB := Lib.hid hb
      obtain ⟨wa, hwa⟩ : ∃ y, y = wr.alloc (.cells #[.string xk, .int .i64 xs, .slice Av xv.length cv, .bool xd] 33) := ⟨_, rfl⟩
      have HWA := Lib.hid hwa
      have TA := Lib.hid (show Turn (Item.all []) w (Item.all [Item.blk g6 33 (vz.cells none 0), Item.blk g8 33 ((o.getD vz).cells A8 c8), Item.blk wr.heap.size 33 #[.string xk, .int .i64 xs, .slice Av xv.length cv, .bool xd]]) wa from by
        rw [hwa]
        exact (hT.more (y := Item.blk wr.heap.size 33 #[.string xk, .int .i64 xs, .slice Av xv.length cv, .bool xd]) ((Below.refl _ _).alloc (Nat.le_refl _) _) (Blk.new _ _ _) (fun k hk => Nat.le_of_eq hk.symm)).by_ 3 rfl [1, 2, 0] (by decide))
      have hbr : bb < wr.heap.size := Nat.lt_of_lt_of_le (Nat.lt_of_lt_of_le hbb HB0.out) hbw.size
      clear hx hval hvc hints hbb hT hH hbw hb ho hwa hKl
      go_upto_region 5 with fail
      rw [← HWA.out]
      obtain ⟨gx, hgx⟩ : ∃ g, g = wr.heap.size := ⟨_, rfl⟩
      rw [← hgx] at TA ⊢
      clear HWA hgx s0 s1 s2 s3 hbr
      have q0 := Blk.cell (show Blk wa gx _ #[.string xk, .int .i64 xs, .slice Av xv.length cv, .bool xd] from TA.out.get (i := 2) rfl) 0
      have q1 := Blk.cell (show Blk wa gx _ #[.string xk, .int .i64 xs, .slice Av xv.length cv, .bool xd] from TA.out.get (i := 2) rfl) 1
      have q2 := Blk.cell (show Blk wa gx _ #[.string xk, .int .i64 xs, .slice Av xv.length cv, .bool xd] from TA.out.get (i := 2) rfl) 2
      have q3 := Blk.cell (show Blk wa gx _ #[.string xk, .int .i64 xs, .slice Av xv.length cv, .bool xd] from TA.out.get (i := 2) rfl) 3
      obtain ⟨⟨ok_, os, ov, od⟩, hov⟩ : ∃ v, v = o.getD vz := ⟨_, rfl⟩
      have HOV := Lib.hid hov
      rw [← hov, show Vn.cells ⟨ok_, os, ov, od⟩ A8 c8 = #[.string ok_, .int .i64 os, .slice A8 ov.length c8, .bool od] from rfl] at TA
      have y0 := Blk.cell (show Blk wa g8 _ #[.string ok_, .int .i64 os, .slice A8 ov.length c8, .bool od] from TA.out.get (i := 1) rfl) 0
      have f0 := Blk.frozen (show Blk wa g8 _ #[.string ok_, .int .i64 os, .slice A8 ov.length c8, .bool od] from TA.out.get (i := 1) rfl) 0
      have y1 := Blk.cell (show Blk wa g8 _ #[.string ok_, .int .i64 os, .slice A8 ov.length c8, .bool od] from TA.out.get (i := 1) rfl) 1
      have f1 := Blk.frozen (show Blk wa g8 _ #[.string ok_, .int .i64 os, .slice A8 ov.length c8, .bool od] from TA.out.get (i := 1) rfl) 1
      have y2 := Blk.cell (show Blk wa g8 _ #[.string ok_, .int .i64 os, .slice A8 ov.length c8, .bool od] from TA.out.get (i := 1) rfl) 2
      have f2 := Blk.frozen (show Blk wa g8 _ #[.string ok_, .int .i64 os, .slice A8 ov.length c8, .bool od] from TA.out.get (i := 1) rfl) 2
      have y3 := Blk.cell (show Blk wa g8 _ #[.string ok_, .int .i64 os, .slice A8 ov.length c8, .bool od] from TA.out.get (i := 1) rfl) 3
      have f3 := Blk.frozen (show Blk wa g8 _ #[.string ok_, .int .i64 os, .slice A8 ov.length c8, .bool od] from TA.out.get (i := 1) rfl) 3
      simp only [List.getElem?_toArray, List.getElem?_cons_zero, List.getElem?_cons_succ] at q0 q1 q2 q3 y0 y1 y2 y3
      clear hov
      cases hE : (xk.toList == key.toList) with
      | false =>
        have HNK := Lib.hid (show newS key st o ⟨xk, xs, xv, xd⟩ = o from if_neg (fun h => by rw [show xk = key from h.1, beq_self_eq_true] at hE; cases hE))
        have HRE := Lib.hid (show NewIn w l key st g6 g8 (K + 1) b wa from ⟨A8, c8, by rw [HNS.out, HNK.out]; exact HB.out, by rw [HNS.out, HNK.out, ← HOV.out]; exact TA.out.sub (List.Sublist.cons_cons _ (List.Sublist.cons_cons _ (List.nil_sublist _)))⟩)
        clear TA
        go_wp2
        exact ⟨⟨K + 1, b, by go_num, rfl, hKi, HRE⟩, by simp [intOf]; omega⟩
      | true =>
        have HKE := Lib.hid (show xk = key from by
          have h := beq_iff_eq.1 hE
          rw [ByteArray.toList_eq, ByteArray.toList_eq] at h
          obtain ⟨⟨a⟩⟩ := xk
          obtain ⟨⟨b⟩⟩ := key
          simp only at h
          subst h
          rfl)
        by_cases hs : xs ≤ st
        · have e1 : decide (xs ≤ st) = true := decide_eq_true hs
          have HSS := Lib.hid hs
          clear hs
          cases b with
          | false =>
            have HNK := Lib.hid (show newS key st o ⟨xk, xs, xv, xd⟩ = some ⟨xk, xs, xv, xd⟩ from if_pos ⟨HKE.out, HSS.out, fun y hy => by
              have h := HB.out
              rw [hy] at h; cases h⟩)
            have HRE := Lib.hid (show NewIn w l key st g6 g8 (K + 1) true ((((wa.setCell ⟨g8, 0, none⟩ (.string xk)).setCell ⟨g8, 1, none⟩ (.int .i64 xs)).setCell ⟨g8, 2, none⟩ (.slice Av xv.length cv)).setCell ⟨g8, 3, none⟩ (.bool xd)) from ⟨Av, cv, by rw [HNS.out, HNK.out]; rfl, by
              rw [HNS.out, HNK.out]
              have t1 := TA.out.step (i := 1) rfl (Turn.cell (TA.out.get (i := 1) rfl) 0 (.string xk))
              have t2 := t1.step (i := 1) rfl (Turn.cell (t1.get (i := 1) rfl) 1 (.int .i64 xs))
              have t3 := t2.step (i := 1) rfl (Turn.cell (t2.get (i := 1) rfl) 2 (.slice Av xv.length cv))
              have t4 := t3.step (i := 1) rfl (Turn.cell (t3.get (i := 1) rfl) 3 (.bool xd))
              exact t4.sub (List.Sublist.cons_cons _ (List.Sublist.cons_cons _ (List.nil_sublist _)))⟩)
            clear TA
            go_wp2
            exact ⟨⟨K + 1, true, by go_num, rfl, hKi, HRE⟩, by simp [intOf]; omega⟩
          | true =>
            by_cases hb : os < xs
            · have e2 : decide (os < xs) = true := decide_eq_true hb
              have HNK := Lib.hid (show newS key st o ⟨xk, xs, xv, xd⟩ = some ⟨xk, xs, xv, xd⟩ from if_pos ⟨HKE.out, HSS.out, fun y hy => by
                have h := HOV.out
                rw [hy] at h
                have h2 : os = y.stamp := congrArg Vn.stamp h
                show y.stamp < xs
                omega⟩)
              clear hb
              have HRE := Lib.hid (show NewIn w l key st g6 g8 (K + 1) true ((((wa.setCell ⟨g8, 0, none⟩ (.string xk)).setCell ⟨g8, 1, none⟩ (.int .i64 xs)).setCell ⟨g8, 2, none⟩ (.slice Av xv.length cv)).setCell ⟨g8, 3, none⟩ (.bool xd)) from ⟨Av, cv, by rw [HNS.out, HNK.out]; rfl, by
                rw [HNS.out, HNK.out]
                have t1 := TA.out.step (i := 1) rfl (Turn.cell (TA.out.get (i := 1) rfl) 0 (.string xk))
                have t2 := t1.step (i := 1) rfl (Turn.cell (t1.get (i := 1) rfl) 1 (.int .i64 xs))
                have t3 := t2.step (i := 1) rfl (Turn.cell (t2.get (i := 1) rfl) 2 (.slice Av xv.length cv))
                have t4 := t3.step (i := 1) rfl (Turn.cell (t3.get (i := 1) rfl) 3 (.bool xd))
                exact t4.sub (List.Sublist.cons_cons _ (List.Sublist.cons_cons _ (List.nil_sublist _)))⟩)
              clear TA
              go_wp2
              exact ⟨⟨K + 1, true, by go_num, rfl, hKi, HRE⟩, by simp [intOf]; omega⟩
            · have e2 : decide (os < xs) = false := decide_eq_false hb
              have HNK := Lib.hid (show newS key st o ⟨xk, xs, xv, xd⟩ = o from if_neg (fun h => by
                obtain ⟨y, hy⟩ := Option.isSome_iff_exists.1 HB.out.symm
                have h1 := h.2.2 y hy
                have h0 := HOV.out
                rw [hy] at h0
                have h2 : os = y.stamp := congrArg Vn.stamp h0
                have h3 : y.stamp < xs := h1
                omega))
              have HRE := Lib.hid (show NewIn w l key st g6 g8 (K + 1) true wa from ⟨A8, c8, by rw [HNS.out, HNK.out]; exact HB.out, by rw [HNS.out, HNK.out, ← HOV.out]; exact TA.out.sub (List.Sublist.cons_cons _ (List.Sublist.cons_cons _ (List.nil_sublist _)))⟩)
              clear TA hb
              go_wp2
              exact ⟨⟨K + 1, true, by go_num, rfl, hKi, HRE⟩, by simp [intOf]; omega⟩
        · have e1 : decide (xs ≤ st) = false := decide_eq_false hs
          have HNK := Lib.hid (show newS key st o ⟨xk, xs, xv, xd⟩ = o from if_neg (fun h => hs h.2.1))
          have HRE := Lib.hid (show NewIn w l key st g6 g8 (K + 1) b wa from ⟨A8, c8, by rw [HNS.out, HNK.out]; exact HB.out, by rw [HNS.out, HNK.out, ← HOV.out]; exact TA.out.sub (List.Sublist.cons_cons _ (List.Sublist.cons_cons _ (List.nil_sublist _)))⟩)
          clear TA hs
          go_wp2
          exact ⟨⟨K + 1, b, by go_num, rfl, hKi, HRE⟩, by simp [intOf]; omega⟩
    · obtain rfl : K = N := by omega
      obtain ⟨A8, c8, hb, hT⟩ := hH.out
      rw [List.take_of_length_le (by rw [← HN.out]; exact Nat.le_refl _)] at hb hT
      obtain ⟨o, ho⟩ : ∃ o, o = newL l key st := ⟨_, rfl⟩
      rw [← ho] at hb hT ⊢
      obtain ⟨⟨ok_, os, ov, od⟩, hov⟩ : ∃ v, v = o.getD vz := ⟨_, rfl⟩
      have HOV := Lib.hid hov
      rw [← hov, show Vn.cells ⟨ok_, os, ov, od⟩ A8 c8 = #[.string ok_, .int .i64 os, .slice A8 ov.length c8, .bool od] from rfl, show Vn.cells vz none 0 = #[.string ⟨#[]⟩, .int .i64 0, .slice none 0 0, .bool false] from rfl] at hT
      have TA := Lib.hid hT
      have y0 := Blk.cell (show Blk wr g8 _ #[.string ok_, .int .i64 os, .slice A8 ov.length c8, .bool od] from TA.out.get (i := 1) rfl) 0
      have q0 := Blk.cell (show Blk wr g6 _ #[.string ⟨#[]⟩, .int .i64 0, .slice none 0 0, .bool false] from TA.out.get (i := 0) rfl) 0
      have f0 := Blk.frozen (show Blk wr g6 _ #[.string ⟨#[]⟩, .int .i64 0, .slice none 0 0, .bool false] from TA.out.get (i := 0) rfl) 0
      have y1 := Blk.cell (show Blk wr g8 _ #[.string ok_, .int .i64 os, .slice A8 ov.length c8, .bool od] from TA.out.get (i := 1) rfl) 1
      have q1 := Blk.cell (show Blk wr g6 _ #[.string ⟨#[]⟩, .int .i64 0, .slice none 0 0, .bool false] from TA.out.get (i := 0) rfl) 1
      have f1 := Blk.frozen (show Blk wr g6 _ #[.string ⟨#[]⟩, .int .i64 0, .slice none 0 0, .bool false] from TA.out.get (i := 0) rfl) 1
      have y2 := Blk.cell (show Blk wr g8 _ #[.string ok_, .int .i64 os, .slice A8 ov.length c8, .bool od] from TA.out.get (i := 1) rfl) 2
      have q2 := Blk.cell (show Blk wr g6 _ #[.string ⟨#[]⟩, .int .i64 0, .slice none 0 0, .bool false] from TA.out.get (i := 0) rfl) 2
      have f2 := Blk.frozen (show Blk wr g6 _ #[.string ⟨#[]⟩, .int .i64 0, .slice none 0 0, .bool false] from TA.out.get (i := 0) rfl) 2
      have y3 := Blk.cell (show Blk wr g8 _ #[.string ok_, .int .i64 os, .slice A8 ov.length c8, .bool od] from TA.out.get (i := 1) rfl) 3
      have q3 := Blk.cell (show Blk wr g6 _ #[.string ⟨#[]⟩, .int .i64 0, .slice none 0 0, .bool false] from TA.out.get (i := 0) rfl) 3
      have f3 := Blk.frozen (show Blk wr g6 _ #[.string ⟨#[]⟩, .int .i64 0, .slice none 0 0, .bool false] from TA.out.get (i := 0) rfl) 3
      simp only [List.getElem?_toArray, List.getElem?_cons_zero, List.getElem?_cons_succ] at q0 q1 q2 q3 y0 y1 y2 y3
      have hne : g6 ≠ g8 := by
        have h1 := hT.p.2
        simp only [List.pairwise_cons] at h1
        intro h
        exact h1.1 _ (List.mem_cons_self ..) g6 rfl h
      have HBB := Lib.hid hb
      have HO := Lib.hid ho
      clear hov hT hH hb ho
      have t1 := TA.out.step (i := 0) rfl (Turn.cell (TA.out.get (i := 0) rfl) 0 (.string ok_))
      have t2 := t1.step (i := 0) rfl (Turn.cell (t1.get (i := 0) rfl) 1 (.int .i64 os))
      have t3 := t2.step (i := 0) rfl (Turn.cell (t2.get (i := 0) rfl) 2 (.slice A8 ov.length c8))
      have t4 := t3.step (i := 0) rfl (Turn.cell (t3.get (i := 0) rfl) 3 (.bool od))
      have hz : ∀ W, W = (((wr.setCell ⟨g6, 0, none⟩ (.string ok_)).setCell ⟨g6, 1, none⟩ (.int .i64 os)).setCell ⟨g6, 2, none⟩ (.slice A8 ov.length c8)).setCell ⟨g6, 3, none⟩ (.bool od) → W.cell? ⟨g6, 0, none⟩ = some (.string ok_) ∧ W.cell? ⟨g6, 1, none⟩ = some (.int .i64 os) ∧ W.cell? ⟨g6, 2, none⟩ = some (.slice A8 ov.length c8) ∧ W.cell? ⟨g6, 3, none⟩ = some (.bool od) ∧ NewPost o w (.returned (.tuple #[.agg #[.string ok_, .int .i64 os, .slice A8 ov.length c8, .bool od], .bool b])) W := fun W hW => by
        rw [hW]
        have h : Blk _ g6 _ #[.string ok_, .int .i64 os, .slice A8 ov.length c8, .bool od] := t4.get (i := 0) rfl
        have r0 := Blk.cell h 0
        have r1 := Blk.cell h 1
        have r2 := Blk.cell h 2
        have r3 := Blk.cell h 3
        simp only [List.getElem?_toArray, List.getElem?_cons_zero, List.getElem?_cons_succ] at r0 r1 r2 r3
        exact ⟨r0, r1, r2, r3, ⟨A8, c8, by rw [← HOV.out, HBB.out]; rfl⟩, t4.free⟩
      have HZ := Lib.hid hz
      clear TA t1 t2 t3 t4 hz
      go_wp2
      obtain ⟨W, hW⟩ : ∃ W, W = (((wr.setCell ⟨g6, 0, none⟩ (.string ok_)).setCell ⟨g6, 1, none⟩ (.int .i64 os)).setCell ⟨g6, 2, none⟩ (.slice A8 ov.length c8)).setCell ⟨g6, 3, none⟩ (.bool od) := ⟨_, rfl⟩
      obtain ⟨r0, r1, r2, r3, hr⟩ := HZ.out W hW
      rw [← hW]
      clear hW HZ
      refine bodyPost_ret (v := .tuple #[.agg #[.string ok_, .int .i64 os, .slice A8 ov.length c8, .bool od], .bool b]) ?_ rfl (by rw [← HO.out]; exact hr)
      simp [results, Try.results95, go_sem, r0, r1, r2, r3]
set_option maxRecDepth 100000 in
set_option maxHeartbeats 1600000 in
theorem rlast_any {w : World} {B : Nat} {A : Option Addr} {c : Nat} {l : List Vn} (hS : kVn.Sl w B A l) (hB : B ≤ w.heap.size) (hl : l.length ≤ 1099511627776) (key : ByteArray) :
    Calls Try.prog 62 #[.slice A l.length c, .string key] w (NewPost (newL l key 4611686018427387904) w) := by
  obtain ⟨w1, hw1⟩ : ∃ x, x = w.alloc (.cells #[.string ⟨#[]⟩, .int .i64 0, .slice none 0 0, .bool false] 33) := ⟨_, rfl⟩
  have hb1 : Below w.heap.size w w1 := by rw [hw1]; exact (Below.refl _ _).alloc (Nat.le_refl _) _
  have t1 : Turn (Item.all []) w (Item.all [Item.blk w.heap.size 33 #[.string ⟨#[]⟩, .int .i64 0, .slice none 0 0, .bool false]]) w1 := by
    rw [hw1]
    exact (Turn.none_ (w := w)).more (y := Item.blk w.heap.size 33 #[.string ⟨#[]⟩, .int .i64 0, .slice none 0 0, .bool false]) ((Below.refl _ _).alloc (Nat.le_refl _) _) (Blk.new _ _ _) (fun k hk => Nat.le_of_eq hk.symm)
  have HNW := Lib.hid (rnewest_any (w := w1) (c := c) (hS.keep (fun p hp => hb1.cell (Nat.lt_of_lt_of_le hp hB))) (Nat.le_trans hB hb1.size) hl key 4611686018427387904)
  have HW1 := Lib.hid hw1
  have T1 := Lib.hid t1
  obtain ⟨N, hN⟩ : ∃ N, N = l.length := ⟨_, rfl⟩
  rw [← hN] at HNW ⊢
  clear hS hN hw1 hb1 t1
  go_enter Try.func62, Try.ntmps62
  go_wp2_with fail
  rw [← HW1.out]
  refine HNW.out.mono ?_
  rintro e w2 ⟨⟨A8, c8, rfl⟩, hb⟩
  obtain ⟨o, ho⟩ : ∃ o, o = newL l key 4611686018427387904 := ⟨_, rfl⟩
  rw [← ho]
  obtain ⟨⟨ok_, os, ov, od⟩, hov⟩ : ∃ v, v = o.getD vz := ⟨_, rfl⟩
  have HO := Lib.hid ho
  have HOV := Lib.hid hov
  rw [← hov, show Vn.cells ⟨ok_, os, ov, od⟩ A8 c8 = #[.string ok_, .int .i64 os, .slice A8 ov.length c8, .bool od] from rfl]
  obtain ⟨b, hb_⟩ : ∃ b, b = o.isSome := ⟨_, rfl⟩
  have HBB := Lib.hid hb_
  rw [← hb_]
  have TA := Lib.hid (T1.out.go hb)
  have q0 := Blk.cell (show Blk w2 w.heap.size _ #[.string ⟨#[]⟩, .int .i64 0, .slice none 0 0, .bool false] from TA.out.get (i := 0) rfl) 0
  have f0 := Blk.frozen (show Blk w2 w.heap.size _ #[.string ⟨#[]⟩, .int .i64 0, .slice none 0 0, .bool false] from TA.out.get (i := 0) rfl) 0
  have q1 := Blk.cell (show Blk w2 w.heap.size _ #[.string ⟨#[]⟩, .int .i64 0, .slice none 0 0, .bool false] from TA.out.get (i := 0) rfl) 1
  have f1 := Blk.frozen (show Blk w2 w.heap.size _ #[.string ⟨#[]⟩, .int .i64 0, .slice none 0 0, .bool false] from TA.out.get (i := 0) rfl) 1
  have q2 := Blk.cell (show Blk w2 w.heap.size _ #[.string ⟨#[]⟩, .int .i64 0, .slice none 0 0, .bool false] from TA.out.get (i := 0) rfl) 2
  have f2 := Blk.frozen (show Blk w2 w.heap.size _ #[.string ⟨#[]⟩, .int .i64 0, .slice none 0 0, .bool false] from TA.out.get (i := 0) rfl) 2
  have q3 := Blk.cell (show Blk w2 w.heap.size _ #[.string ⟨#[]⟩, .int .i64 0, .slice none 0 0, .bool false] from TA.out.get (i := 0) rfl) 3
  have f3 := Blk.frozen (show Blk w2 w.heap.size _ #[.string ⟨#[]⟩, .int .i64 0, .slice none 0 0, .bool false] from TA.out.get (i := 0) rfl) 3
  simp only [List.getElem?_toArray, List.getElem?_cons_zero, List.getElem?_cons_succ] at q0 q1 q2 q3
  have t1 := TA.out.step (i := 0) rfl (Turn.cell (TA.out.get (i := 0) rfl) 0 (.string ok_))
  have t2 := t1.step (i := 0) rfl (Turn.cell (t1.get (i := 0) rfl) 1 (.int .i64 os))
  have t3 := t2.step (i := 0) rfl (Turn.cell (t2.get (i := 0) rfl) 2 (.slice A8 ov.length c8))
  have t4 := t3.step (i := 0) rfl (Turn.cell (t3.get (i := 0) rfl) 3 (.bool od))
  have hz : ∀ W, W = (((w2.setCell ⟨w.heap.size, 0, none⟩ (.string ok_)).setCell ⟨w.heap.size, 1, none⟩ (.int .i64 os)).setCell ⟨w.heap.size, 2, none⟩ (.slice A8 ov.length c8)).setCell ⟨w.heap.size, 3, none⟩ (.bool od) → W.cell? ⟨w.heap.size, 0, none⟩ = some (.string ok_) ∧ W.cell? ⟨w.heap.size, 1, none⟩ = some (.int .i64 os) ∧ W.cell? ⟨w.heap.size, 2, none⟩ = some (.slice A8 ov.length c8) ∧ W.cell? ⟨w.heap.size, 3, none⟩ = some (.bool od) ∧ NewPost o w (.returned (.tuple #[.agg #[.string ok_, .int .i64 os, .slice A8 ov.length c8, .bool od], .bool b])) W := fun W hW => by
    rw [hW]
    have h : Blk _ w.heap.size _ #[.string ok_, .int .i64 os, .slice A8 ov.length c8, .bool od] := t4.get (i := 0) rfl
    have r0 := Blk.cell h 0
    have r1 := Blk.cell h 1
    have r2 := Blk.cell h 2
    have r3 := Blk.cell h 3
    simp only [List.getElem?_toArray, List.getElem?_cons_zero, List.getElem?_cons_succ] at r0 r1 r2 r3
    exact ⟨r0, r1, r2, r3, ⟨A8, c8, by rw [← HOV.out, HBB.out]; rfl⟩, t4.free⟩
  have HZ := Lib.hid hz
  clear TA t1 t2 t3 t4 hz hb HNW T1 HW1 hb_ hov ho
  go_wp2
  obtain ⟨W, hW⟩ : ∃ W, W = (((w2.setCell ⟨w.heap.size, 0, none⟩ (.string ok_)).setCell ⟨w.heap.size, 1, none⟩ (.int .i64 os)).setCell ⟨w.heap.size, 2, none⟩ (.slice A8 ov.length c8)).setCell ⟨w.heap.size, 3, none⟩ (.bool od) := ⟨_, rfl⟩
  obtain ⟨r0, r1, r2, r3, hr⟩ := HZ.out W hW
  try rw [← hW]
  refine bodyPost_ret (v := .tuple #[.agg #[.string ok_, .int .i64 os, .slice A8 ov.length c8, .bool od], .bool b]) ?_ rfl (by rw [← HO.out]; exact hr)
  simp [results, Try.results62, go_sem, r0, r1, r2, r3]
end Go.Proofs.Ytoecgkdipgaaeaa
