/- The reference's reader: Bytes (printed by a program of this claim's own). -/
import Derived.Test.YtoeccclaaogihaaRefR4
namespace Go.Proofs.Ytoeccclaaogihaa
open Go.RowKit

/-- What Bytes of a reference's reader answers: new bytes and the reader behind them. -/
def RvBytes (w : World) (A : Option Addr) (c : Nat) (x : List UInt8 × Rd) (e : Ending) (w' : World) : Prop :=
  ∃ v, e = .returned (.tuple #[v, rv A c x.2]) ∧ BOwns w' w.heap.size v x.1 ∧ Below w.heap.size w w' ∧ x.2.at_ ≤ x.2.l.length
set_option maxRecDepth 100000 in
theorem refBytes_any {w : World} {A : Option Addr} {c : Nat} {r : Rd} (hr : RvOk w A c r) (most : Int) :
    Calls Try.prog 66 #[rv A c r, .int .i64 most] w (RvBytes w A c (r.bytes most)) := by
  have H := Lib.hid hr
  have hs := hr.small
  have hle := hr.le
  have hcap := hr.cap
  clear hr
  obtain ⟨l, at_, f⟩ := r
  simp only at hs hle hcap
  unfold rv
  by_cases hf : f = 0
  · subst hf
    have HR := Lib.hid H.out.reads
    by_cases hm : most < 0
    · have HE := Lib.hid (show Rd.bytes ⟨l, at_, 0⟩ most = ([], ⟨l, at_, 2⟩) from by
        simp only [Rd.bytes, Rd.step, blockF, if_true]; rw [if_pos hm])
      go_enter Try.func66, Try.ntmps66
      go_wp2_with fail
      obtain ⟨W0, hW0⟩ : ∃ x, x = (w.alloc (.cells #[.slice A l.length c, .int .i64 at_, .int .i64 2] 49)).alloc (.cells #[.slice none 0 0, .int .i64 0, .int .i64 0] 49) := ⟨_, rfl⟩
      have T1 := Lib.hid (show Two w W0 A c ⟨l, at_, 2⟩ from by rw [hW0]; exact Two.start w A c ⟨l, at_, 2⟩)
      rw [← hW0]
      clear hW0
      obtain ⟨⟨k0, k1, k2⟩, k3, k4⟩ := T1.out.boxed
      simp only at k0 k1 k2
      obtain ⟨⟨j0, j1, j2⟩, j3, j4, j5⟩ := T1.out.ans
      go_region
      go_wp2
      change bodyPost _ _ _ _ _ (set3 W0 (w.heap.size + 1) _ _ _).drew
      obtain ⟨hb, e0, e1, e2⟩ := T1.out.close (.slice A l.length c) (.int .i64 at_) (.int .i64 2)
      exact bodyPost_ret (v := .tuple #[.slice none 0 0, rv A c ⟨l, at_, 2⟩]) (by simp [results, Try.results66, go_sem, e0, e1, e2, rv]) rfl ⟨_, by rw [HE.out], by rw [HE.out]; exact BOwns.nil _ _, hb.drew, by rw [HE.out]; exact hle⟩
    · have HN := Lib.hid (show 0 ≤ most from Int.not_lt.1 hm)
      go_enter Try.func66, Try.ntmps66
      go_wp2_with fail
      obtain ⟨W0, hW0⟩ : ∃ x, x = (w.alloc (.cells #[.slice A l.length c, .int .i64 at_, .int .i64 0] 49)).alloc (.cells #[.slice none 0 0, .int .i64 0, .int .i64 0] 49) := ⟨_, rfl⟩
      have T1 := Lib.hid (show Two w W0 A c ⟨l, at_, 0⟩ from by rw [hW0]; exact Two.start w A c ⟨l, at_, 0⟩)
      rw [← hW0]
      clear hW0
      obtain ⟨⟨k0, k1, k2⟩, k3, k4⟩ := T1.out.boxed
      simp only at k0 k1 k2
      have RV := Lib.hid (H.out.below T1.out.below)
      have hint := refInt_any RV.out 0 most
      have HB := Lib.hid (show ∀ x, blockF most (l.drop at_) = x → Rd.bytes ⟨l, at_, 0⟩ most = Rd.step ⟨l, at_, 0⟩ [] x from fun x h => by subst h; rfl)
      have hld : (l.drop at_).length = l.length - at_ := List.length_drop
      cases hn : numberF 0 most (l.drop at_) with
      | error m =>
        have hmz : (m == 0) = false := by simpa using numberF_err hn
        have HE := Lib.hid (show Rd.bytes ⟨l, at_, 0⟩ most = ([], ⟨l, at_, m⟩) from HB.out (.error m) (by unfold blockF; rw [if_neg (show ¬ most < 0 from Int.not_lt.2 HN.out), hn]))
        have HI := Lib.hid (show Rd.int ⟨l, at_, 0⟩ 0 most = (0, ⟨l, at_, m⟩) from by unfold Rd.int; simp only; rw [hn]; rfl)
        clear hn hld HB
        rw [HI.out] at hint
        refine hint.mono ?_
        rintro e w1 ⟨rfl, hb, _⟩
        have T2 := Lib.hid (T1.out.go hb)
        clear hb hint
        unfold rv
        simp only
        have T2b := Lib.hid (T2.out.go (W' := w1.alloc (.cells #[.slice A l.length c, .int .i64 at_, .int .i64 m] 49)) ((Below.refl _ _).alloc (Nat.le_refl _) _))
        clear k0 k1 k2 k3 k4
        obtain ⟨⟨k0, k1, k2⟩, k3, k4⟩ := T2b.out.boxed
        simp only at k0 k1 k2
        go_wp2
        have T3 := Lib.hid (T2b.out.fault m)
        obtain ⟨w3, hw3⟩ : ∃ x, x = (w1.alloc (.cells #[.slice A l.length c, .int .i64 at_, .int .i64 m] 49)).setCell ⟨w.heap.size, 2, none⟩ (.int .i64 m) := ⟨_, rfl⟩
        rw [← hw3] at T3 ⊢
        clear hw3 k0 k1 k2 k3 k4
        obtain ⟨⟨k0, k1, k2⟩, k3, k4⟩ := T3.out.boxed
        simp only at k0 k1 k2
        obtain ⟨⟨j0, j1, j2⟩, j3, j4, j5⟩ := T3.out.ans
        go_region
        go_wp2
        change bodyPost _ _ _ _ _ (set3 w3 (w.heap.size + 1) _ _ _).drew
        obtain ⟨hb, e0, e1, e2⟩ := T3.out.close (.slice A l.length c) (.int .i64 at_) (.int .i64 m)
        exact bodyPost_ret (v := .tuple #[.slice none 0 0, rv A c ⟨l, at_, m⟩]) (by simp [results, Try.results66, go_sem, e0, e1, e2, rv]) rfl ⟨_, by rw [HE.out], by rw [HE.out]; exact BOwns.nil _ _, hb.drew, by rw [HE.out]; exact hle⟩
      | ok x =>
        obtain ⟨n, k⟩ := x
        have hnk := numberF_ok hn
        obtain ⟨n, rfl⟩ := Int.eq_ofNat_of_zero_le hnk.1
        obtain ⟨M, hM⟩ : ∃ M, M = at_ + k := ⟨_, rfl⟩
        have HM := Lib.hid hM
        have hMl : M ≤ l.length := by omega
        have HI := Lib.hid (show Rd.int ⟨l, at_, 0⟩ 0 most = ((n : Int), ⟨l, M, 0⟩) from by unfold Rd.int; simp only; rw [hn, hM]; rfl)
        rw [HI.out] at hint
        by_cases hcut : (l.length : Int) - (M : Int) < (n : Int)
        · have HE := Lib.hid (show Rd.bytes ⟨l, at_, 0⟩ most = ([], ⟨l, at_, 20⟩) from HB.out (.error 20) (by unfold blockF; rw [if_neg (show ¬ most < 0 from Int.not_lt.2 HN.out), hn]; simp only; rw [if_pos (by omega)]))
          clear hn hld HB hM hnk
          refine hint.mono ?_
          rintro e w1 ⟨rfl, hb, _⟩
          have T2 := Lib.hid (T1.out.go hb)
          have RS := Lib.hid (show RvOk w1 A c ⟨l, M, 0⟩ from ⟨((HR.out.below T1.out.below).below (hb.mono T1.out.below.size)).more T2.out.below.size, hcap, hMl, hs⟩)
          clear hb hint
          unfold rv
          simp only
          clear k0 k1 k2 k3 k4
          go_wp2_with fail
          refine (refLeft_any (RS.out.below ((Below.refl _ _).alloc (Nat.le_refl _) _))).mono ?_
          rintro e w3 ⟨rfl, hb⟩
          unfold Rd.left
          simp only
          obtain ⟨W2, hW2⟩ : ∃ x, x = w1.alloc (.cells #[.slice A l.length c, .int .i64 M, .int .i64 0] 49) := ⟨_, rfl⟩
          have K3 := Lib.hid (show Blk W2 w1.heap.size 49 #[.slice A l.length c, .int .i64 M, .int .i64 0] from by rw [hW2]; exact Blk.new _ _ _)
          have B2 := Lib.hid (show Below w1.heap.size w1 W2 from by rw [hW2]; exact (Below.refl _ _).alloc (Nat.le_refl _) _)
          rw [← hW2] at hb
          clear hW2
          have T3 := Lib.hid ((T2.out.go B2.out).go hb)
          have K4 := Lib.hid (K3.out.below' hb)
          have hne : w.heap.size + 1 < w1.heap.size := T2.out.res.lt
          have RW := Lib.hid (((RS.out.reads.below B2.out).more B2.out.size).below hb)
          have BW := Lib.hid (hb.size)
          clear hb
          obtain ⟨⟨k0, k1, k2⟩, k3, k4⟩ := T3.out.boxed
          have i0 := K4.out.cell 0
          have i1 := K4.out.cell 1
          have i2 := K4.out.cell 2
          have i3 := K4.out.frozen 2
          simp only at k0 k1 k2
          simp at i0 i1 i2
          go_wp2
          have T4 := Lib.hid (T3.out.far (p := ⟨w1.heap.size, 2, none⟩) hne (.int .i64 20))
          obtain ⟨w4, hw4⟩ : ∃ x, x = w3.setCell ⟨w1.heap.size, 2, none⟩ (.int .i64 20) := ⟨_, rfl⟩
          rw [← hw4] at T4 ⊢
          clear hw4 k0 k1 k2 k3 k4 i0 i1 i2 i3
          have T5 := Lib.hid (T4.out.fault 20)
          obtain ⟨w5, hw5⟩ : ∃ x, x = w4.setCell ⟨w.heap.size, 2, none⟩ (.int .i64 20) := ⟨_, rfl⟩
          rw [← hw5] at T5 ⊢
          clear hw5
          obtain ⟨⟨k0, k1, k2⟩, k3, k4⟩ := T5.out.boxed
          simp only at k0 k1 k2
          obtain ⟨⟨j0, j1, j2⟩, j3, j4, j5⟩ := T5.out.ans
          go_region
          go_wp2
          change bodyPost _ _ _ _ _ (set3 w5 (w.heap.size + 1) _ _ _).drew
          obtain ⟨hb, e0, e1, e2⟩ := T5.out.close (.slice A l.length c) (.int .i64 at_) (.int .i64 20)
          exact bodyPost_ret (v := .tuple #[.slice none 0 0, rv A c ⟨l, at_, 20⟩]) (by simp [results, Try.results66, go_sem, e0, e1, e2, rv]) rfl ⟨_, by rw [HE.out], by rw [HE.out]; exact BOwns.nil _ _, hb.drew, by rw [HE.out]; exact hle⟩
        · obtain ⟨P, hP⟩ : ∃ P, P = (l.drop M).take n := ⟨_, rfl⟩
          have hPl : P.length = n := by rw [hP, List.length_take, List.length_drop]; omega
          obtain ⟨M2, hM2⟩ : ∃ M2, M2 = M + n := ⟨_, rfl⟩
          have hM2l : M2 ≤ l.length := by omega
          have HM2 := Lib.hid hM2
          have hfit : M + n ≤ l.length := by omega
          have HE := Lib.hid (show Rd.bytes ⟨l, at_, 0⟩ most = (P, ⟨l, M2, 0⟩) from by
            rw [HB.out (.ok (((l.drop at_).drop k).take n, k + n)) (by unfold blockF; rw [if_neg (show ¬ most < 0 from Int.not_lt.2 HN.out), hn]; simp only; rw [if_neg (by omega), Int.toNat_natCast])]
            simp only [Rd.step, if_true]; rw [List.drop_drop, hP, hM2, hM, Nat.add_assoc])
          have HP := Lib.hid hP
          have HPl := Lib.hid hPl
          clear hP hM2 hPl
          clear hn hld HB hM hnk
          refine hint.mono ?_
          rintro e w1 ⟨rfl, hb, _⟩
          have T2 := Lib.hid (T1.out.go hb)
          have RS := Lib.hid (show RvOk w1 A c ⟨l, M, 0⟩ from ⟨((HR.out.below T1.out.below).below (hb.mono T1.out.below.size)).more T2.out.below.size, hcap, hMl, hs⟩)
          clear hb hint
          unfold rv
          simp only
          clear k0 k1 k2 k3 k4
          go_wp2_with fail
          refine (refLeft_any (RS.out.below ((Below.refl _ _).alloc (Nat.le_refl _) _))).mono ?_
          rintro e w3 ⟨rfl, hb⟩
          unfold Rd.left
          simp only
          obtain ⟨W2, hW2⟩ : ∃ x, x = w1.alloc (.cells #[.slice A l.length c, .int .i64 M, .int .i64 0] 49) := ⟨_, rfl⟩
          have K3 := Lib.hid (show Blk W2 w1.heap.size 49 #[.slice A l.length c, .int .i64 M, .int .i64 0] from by rw [hW2]; exact Blk.new _ _ _)
          have B2 := Lib.hid (show Below w1.heap.size w1 W2 from by rw [hW2]; exact (Below.refl _ _).alloc (Nat.le_refl _) _)
          rw [← hW2] at hb
          clear hW2
          have T3 := Lib.hid ((T2.out.go B2.out).go hb)
          have K4 := Lib.hid (K3.out.below' hb)
          have hne : w.heap.size + 1 < w1.heap.size := T2.out.res.lt
          have RW := Lib.hid (((RS.out.reads.below B2.out).more B2.out.size).below hb)
          have BW := Lib.hid (hb.size)
          clear hb
          obtain ⟨⟨k0, k1, k2⟩, k3, k4⟩ := T3.out.boxed
          have i0 := K4.out.cell 0
          have i1 := K4.out.cell 1
          have i2 := K4.out.cell 2
          have i3 := K4.out.frozen 2
          simp only at k0 k1 k2
          simp at i0 i1 i2
          have RE := Lib.hid (show BReads (w3.alloc (.cells #[] 5)) w3.heap.size A l from (RW.out.more BW.out).below ((Below.refl _ _).alloc (Nat.le_refl _) _))
          obtain rfl : n = P.length := HPl.out.symm
          have ⟨i0', i1', i2'⟩ : (w3.alloc (.cells #[] 5)).cell? ⟨w1.heap.size, 0, none⟩ = some (.slice A l.length c) ∧ (w3.alloc (.cells #[] 5)).cell? ⟨w1.heap.size, 1, none⟩ = some (.int .i64 M) ∧ (w3.alloc (.cells #[] 5)).cell? ⟨w1.heap.size, 2, none⟩ = some (.int .i64 0) := by
            have h := K4.out.alloc (.cells #[] 5)
            exact ⟨by simpa using h.cell 0, by simpa using h.cell 1, by simpa using h.cell 2⟩
          by_cases hcM : c = M
          · subst c
            have RP := Lib.hid (show BReads (w3.alloc (.cells #[] 5)) w3.heap.size A P from by rw [HP.out]; exact reads_sub_eq RE.out hfit hcap rfl)
            clear HP
            go_wp2_with (at_builtin; refine Stop.of ?_)
            refine ⟨append_bytes (m := P) (empty_owns w3) RP.out.src (by simp only [List.length_nil]; omega) (by simp) rfl rfl rfl rfl ?_⟩
            intro v5 w5 ho hg _
            have B5 := Lib.hid (show Below w3.heap.size w3 w5 from below_grown ((Below.refl _ _).alloc (Nat.le_refl _) _) (empty_owns w3) hg)
            rw [List.nil_append] at ho
            have O5 := Lib.hid ho
            have T5 := Lib.hid (T3.out.go B5.out)
            have K5 := Lib.hid (K4.out.below' B5.out)
            clear ho hg k0 k1 k2 k3 k4 i0 i1 i2 i3 i0' i1' i2'
            have i0 := K5.out.cell 0
            have i1 := K5.out.cell 1
            have i2 := K5.out.cell 2
            have i3 := K5.out.frozen 1
            simp at i0 i1 i2
            go_wp2
            rw [show ((M : Int) + (P.length : Int)) = (M2 : Int) from by have := HM2.out; omega]
            have T6 := Lib.hid (T5.out.far (p := ⟨w1.heap.size, 1, none⟩) hne (.int .i64 M2))
            have K6 := Lib.hid (show Blk (w5.setCell ⟨w1.heap.size, 1, none⟩ (.int .i64 M2)) w1.heap.size 49 #[.slice A l.length M, .int .i64 M2, .int .i64 0] from by simpa using K5.out.set_ 1 (.int .i64 M2))
            have O6 := Lib.hid (O5.out.setOther (o := 1) (u := .int .i64 M2) K5.out (by decide))
            obtain ⟨w6, hw6⟩ : ∃ x, x = w5.setCell ⟨w1.heap.size, 1, none⟩ (.int .i64 M2) := ⟨_, rfl⟩
            rw [← hw6] at T6 K6 O6 ⊢
            clear hw6 i0 i1 i2 i3
            have i0 := K6.out.cell 0
            have i1 := K6.out.cell 1
            have i2 := K6.out.cell 2
            simp at i0 i1 i2
            obtain ⟨⟨j0, j1, j2⟩, j3, j4, j5⟩ := T6.out.ans
            go_region
            go_wp2
            change bodyPost _ _ _ _ _ (set3 w6 (w.heap.size + 1) _ _ _).drew
            obtain ⟨hb, e0, e1, e2⟩ := T6.out.close (.slice A l.length M) (.int .i64 M2) (.int .i64 0)
            have O7 := O6.out.set3 T6.out.res (by decide) (.slice A l.length M) (.int .i64 M2) (.int .i64 0)
            exact bodyPost_ret (v := .tuple #[v5, rv A M ⟨l, M2, 0⟩]) (by simp [results, Try.results66, go_sem, e0, e1, e2, rv]) rfl ⟨v5, by rw [HE.out], by rw [HE.out]; exact owns_less O7 T3.out.below.size, hb.drew, by rw [HE.out]; exact hM2l⟩
          · have hcM := Lib.hid hcM
            have RP := Lib.hid (show BReads (w3.alloc (.cells #[] 5)) w3.heap.size (A.map (·.add M)) P from by rw [HP.out]; exact reads_sub_ne RE.out hfit hcap hcM.out)
            clear HP
            go_wp2_with (at_builtin; refine Stop.of ?_)
            refine ⟨append_bytes (m := P) (empty_owns w3) RP.out.src (by simp only [List.length_nil]; omega) (by simp) rfl rfl rfl rfl ?_⟩
            intro v5 w5 ho hg _
            have B5 := Lib.hid (show Below w3.heap.size w3 w5 from below_grown ((Below.refl _ _).alloc (Nat.le_refl _) _) (empty_owns w3) hg)
            rw [List.nil_append] at ho
            have O5 := Lib.hid ho
            have T5 := Lib.hid (T3.out.go B5.out)
            have K5 := Lib.hid (K4.out.below' B5.out)
            clear ho hg k0 k1 k2 k3 k4 i0 i1 i2 i3 i0' i1' i2'
            have i0 := K5.out.cell 0
            have i1 := K5.out.cell 1
            have i2 := K5.out.cell 2
            have i3 := K5.out.frozen 1
            simp at i0 i1 i2
            go_wp2
            rw [show ((M : Int) + (P.length : Int)) = (M2 : Int) from by have := HM2.out; omega]
            have T6 := Lib.hid (T5.out.far (p := ⟨w1.heap.size, 1, none⟩) hne (.int .i64 M2))
            have K6 := Lib.hid (show Blk (w5.setCell ⟨w1.heap.size, 1, none⟩ (.int .i64 M2)) w1.heap.size 49 #[.slice A l.length c, .int .i64 M2, .int .i64 0] from by simpa using K5.out.set_ 1 (.int .i64 M2))
            have O6 := Lib.hid (O5.out.setOther (o := 1) (u := .int .i64 M2) K5.out (by decide))
            obtain ⟨w6, hw6⟩ : ∃ x, x = w5.setCell ⟨w1.heap.size, 1, none⟩ (.int .i64 M2) := ⟨_, rfl⟩
            rw [← hw6] at T6 K6 O6 ⊢
            clear hw6 i0 i1 i2 i3
            have i0 := K6.out.cell 0
            have i1 := K6.out.cell 1
            have i2 := K6.out.cell 2
            simp at i0 i1 i2
            obtain ⟨⟨j0, j1, j2⟩, j3, j4, j5⟩ := T6.out.ans
            go_region
            go_wp2
            change bodyPost _ _ _ _ _ (set3 w6 (w.heap.size + 1) _ _ _).drew
            obtain ⟨hb, e0, e1, e2⟩ := T6.out.close (.slice A l.length c) (.int .i64 M2) (.int .i64 0)
            have O7 := O6.out.set3 T6.out.res (by decide) (.slice A l.length c) (.int .i64 M2) (.int .i64 0)
            exact bodyPost_ret (v := .tuple #[v5, rv A c ⟨l, M2, 0⟩]) (by simp [results, Try.results66, go_sem, e0, e1, e2, rv]) rfl ⟨v5, by rw [HE.out], by rw [HE.out]; exact owns_less O7 T3.out.below.size, hb.drew, by rw [HE.out]; exact hM2l⟩
  · have HE := Lib.hid (show Rd.bytes ⟨l, at_, f⟩ most = ([], ⟨l, at_, f⟩) from by simp only [Rd.bytes, Rd.step]; rw [if_neg hf])
    have hfb : (f == 0) = false := by simp [hf]
    clear hf
    go_enter Try.func66, Try.ntmps66
    go_wp2_with fail
    obtain ⟨W0, hW0⟩ : ∃ x, x = (w.alloc (.cells #[.slice A l.length c, .int .i64 at_, .int .i64 f] 49)).alloc (.cells #[.slice none 0 0, .int .i64 0, .int .i64 0] 49) := ⟨_, rfl⟩
    have T1 := Lib.hid (show Two w W0 A c ⟨l, at_, f⟩ from by rw [hW0]; exact Two.start w A c ⟨l, at_, f⟩)
    rw [← hW0]
    clear hW0
    obtain ⟨⟨k0, k1, k2⟩, k3, k4⟩ := T1.out.boxed
    simp only at k0 k1 k2
    obtain ⟨⟨j0, j1, j2⟩, j3, j4, j5⟩ := T1.out.ans
    go_region
    go_wp2
    change bodyPost _ _ _ _ _ (set3 W0 (w.heap.size + 1) _ _ _).drew
    obtain ⟨hb, e0, e1, e2⟩ := T1.out.close (.slice A l.length c) (.int .i64 at_) (.int .i64 f)
    exact bodyPost_ret (v := .tuple #[.slice none 0 0, rv A c ⟨l, at_, f⟩]) (by simp [results, Try.results66, go_sem, e0, e1, e2, rv]) rfl ⟨_, by rw [HE.out], by rw [HE.out]; exact BOwns.nil _ _, hb.drew, by rw [HE.out]; exact hle⟩
end Go.Proofs.Ytoeccclaaogihaa
