/- The reference's reader: Int (printed by a program of this claim's own). -/
import Derived.Test.YtoeccclaaogihaaRefR3
namespace Go.Proofs.Ytoeccclaaogihaa
open Go.RowKit

theorem drop_reads {w : World} {B c at_ : Nat} {A : Option Addr} {l : List UInt8} (h : BReads w B A l) (ha : at_ ≤ l.length) (hc : l.length ≤ c) :
    (c = at_ → BReads w B A (l.drop at_)) ∧ (¬ c = at_ → BReads w B (A.map (·.add at_)) (l.drop at_)) := by
  have e : (l.drop at_).take (l.length - at_) = l.drop at_ := List.take_of_length_le (by rw [List.length_drop]; omega)
  exact ⟨fun he => by have := reads_sub_eq h (n := l.length - at_) (by omega) hc he; rwa [e] at this, fun he => by have := reads_sub_ne h (n := l.length - at_) (by omega) hc he; rwa [e] at this⟩
set_option maxRecDepth 100000 in
theorem refInt_any {w : World} {A : Option Addr} {c : Nat} {r : Rd} (hr : RvOk w A c r) (low high : Int) :
    Calls Try.prog 65 #[rv A c r, .int .i64 low, .int .i64 high] w (RvPost w A c (.int .i64 (r.int low high).1) (r.int low high).2) := by
  have H := Lib.hid hr
  have hs := hr.small
  have hle := hr.le
  have hcap := hr.cap
  clear hr
  obtain ⟨l, at_, f⟩ := r
  simp only at hs hle hcap
  unfold rv
  by_cases hf : f = 0
  · subst hf
    have HR := Lib.hid H.out.reads
    by_cases hlh : high < low
    · have HE := Lib.hid (show Rd.int ⟨l, at_, 0⟩ low high = (0, ⟨l, at_, 2⟩) from by
        simp only [Rd.int, Rd.step, numberF, if_true]; rw [if_pos hlh])
      go_enter Try.func65, Try.ntmps65
      go_wp2_with fail
      obtain ⟨W0, hW0⟩ : ∃ x, x = (w.alloc (.cells #[.slice A l.length c, .int .i64 at_, .int .i64 2] 49)).alloc (.cells #[.slice none 0 0, .int .i64 0, .int .i64 0] 49) := ⟨_, rfl⟩
      have T1 := Lib.hid (show Two w W0 A c ⟨l, at_, 2⟩ from by rw [hW0]; exact Two.start w A c ⟨l, at_, 2⟩)
      rw [← hW0]
      clear hW0
      obtain ⟨⟨k0, k1, k2⟩, k3, k4⟩ := T1.out.boxed
      simp only at k0 k1 k2
      obtain ⟨⟨j0, j1, j2⟩, j3, j4, j5⟩ := T1.out.ans
      go_region
      go_wp2
      change bodyPost _ _ _ _ _ (set3 W0 (w.heap.size + 1) _ _ _).drew
      obtain ⟨hb, e0, e1, e2⟩ := T1.out.close (.slice A l.length c) (.int .i64 at_) (.int .i64 2)
      exact bodyPost_ret (v := .tuple #[.int .i64 0, rv A c ⟨l, at_, 2⟩]) (by simp [results, Try.results65, go_sem, e0, e1, e2, rv]) rfl ⟨by rw [HE.out], hb.drew, by rw [HE.out]; exact hle⟩
    · obtain ⟨L, hL⟩ : ∃ L, L = l.drop at_ := ⟨_, rfl⟩
      have hLl : L.length = l.length - at_ := by rw [hL, List.length_drop]
      have HL := Lib.hid hL
      have HLl := Lib.hid hLl
      have HN := Lib.hid hlh
      clear hL hLl
      have H64 := Lib.hid (show ∀ u k, scan 0 0 L = .ok (u, k) → u < 18446744073709551616 ∧ k ≤ L.length from fun u k h => by
        have := scan_ok h; exact ⟨(this.2.2 (by omega) (by decide)).1, by omega⟩)
      obtain ⟨x, hx⟩ : ∃ x, x = formF L := ⟨_, rfl⟩
      have HX : (∃ m, Hid (scan 0 0 L = .error m) ∧ x = (0, 0, m) ∧ (m == 0) = false) ∨ ∃ u k, Hid (scan 0 0 L = .ok (u, k)) ∧ x = (u, k, 0) := by
        cases hsc : scan 0 0 L with
        | error m =>
          have hm : (m == 0) = false := by rcases scan_err hsc with h | h <;> simp [h]
          have he : formF L = (0, 0, m) := by unfold formF; rw [hsc]
          exact .inl ⟨m, Lib.hid rfl, hx.trans he, hm⟩
        | ok y => exact .inr ⟨y.1, y.2, Lib.hid rfl, by rw [hx, formF, hsc]⟩
      have HXF := Lib.hid hx
      clear hx
      by_cases hc : c = at_
      · subst c
        have e0 : L = [] := List.eq_nil_of_length_eq_zero (by have := HLl.out; omega)
        subst e0
        have HE := Lib.hid (show Rd.int ⟨l, at_, 0⟩ low high = (0, ⟨l, at_, 20⟩) from by
          simp only [Rd.int, Rd.step, numberF, if_true]; rw [if_neg (by have := HN.out; omega), ← HL.out]; rfl)
        go_enter Try.func65, Try.ntmps65
        go_wp2_with fail
        obtain ⟨W0, hW0⟩ : ∃ x, x = (w.alloc (.cells #[.slice A l.length at_, .int .i64 at_, .int .i64 0] 49)).alloc (.cells #[.slice none 0 0, .int .i64 0, .int .i64 0] 49) := ⟨_, rfl⟩
        have T1 := Lib.hid (show Two w W0 A at_ ⟨l, at_, 0⟩ from by rw [hW0]; exact Two.start w A at_ ⟨l, at_, 0⟩)
        rw [← hW0]
        clear hW0
        obtain ⟨⟨k0, k1, k2⟩, k3, k4⟩ := T1.out.boxed
        simp only at k0 k1 k2
        have RD := Lib.hid (show BReads W0 w.heap.size A [] from by rw [HL.out]; exact (drop_reads (HR.out.below T1.out.below) hle hcap).1 rfl)
        refine (form_any RD.out (by simp)).mono ?_
        rintro e w1 ⟨rfl, rfl⟩
        rw [show formF [] = (0, 0, 20) from rfl]
        clear HX HXF H64
        go_wp2_with fail
        refine (unfold_any 0 (by decide)).mono ?_
        rintro e w1 ⟨rfl, rfl⟩
        rw [show unfoldI 0 = 0 from rfl]
        go_wp2
        have T3 := Lib.hid (T1.out.fault 20)
        obtain ⟨w3, hw3⟩ : ∃ x, x = W0.setCell ⟨w.heap.size, 2, none⟩ (.int .i64 20) := ⟨_, rfl⟩
        rw [← hw3] at T3 ⊢
        clear hw3 k0 k1 k2 k3 k4
        obtain ⟨⟨k0, k1, k2⟩, k3, k4⟩ := T3.out.boxed
        simp only at k0 k1 k2
        obtain ⟨⟨j0, j1, j2⟩, j3, j4, j5⟩ := T3.out.ans
        go_region
        go_wp2
        change bodyPost _ _ _ _ _ (set3 w3 (w.heap.size + 1) _ _ _).drew
        obtain ⟨hb, e0, e1, e2⟩ := T3.out.close (.slice A l.length at_) (.int .i64 at_) (.int .i64 20)
        exact bodyPost_ret (v := .tuple #[.int .i64 0, rv A at_ ⟨l, at_, 20⟩]) (by simp [results, Try.results65, go_sem, e0, e1, e2, rv]) rfl ⟨by rw [HE.out], hb.drew, by rw [HE.out]; exact hle⟩
      · have hcH := Lib.hid hc
        have hcb : ¬ (c = at_) := hc
        go_enter Try.func65, Try.ntmps65
        go_wp2_with fail
        obtain ⟨A', hA'⟩ : ∃ A', A' = A.map (·.add at_) := ⟨_, rfl⟩
        obtain ⟨W0, hW0⟩ : ∃ x, x = (w.alloc (.cells #[.slice A l.length c, .int .i64 at_, .int .i64 0] 49)).alloc (.cells #[.slice none 0 0, .int .i64 0, .int .i64 0] 49) := ⟨_, rfl⟩
        have T1 := Lib.hid (show Two w W0 A c ⟨l, at_, 0⟩ from by rw [hW0]; exact Two.start w A c ⟨l, at_, 0⟩)
        rw [← hW0]
        clear hW0
        obtain ⟨⟨k0, k1, k2⟩, k3, k4⟩ := T1.out.boxed
        simp only at k0 k1 k2
        have RD := Lib.hid (show BReads W0 w.heap.size (A.map (·.add at_)) L from by rw [HL.out]; exact (drop_reads (HR.out.below T1.out.below) hle hcap).2 hcH.out)
        rw [show l.length - at_ = L.length from HLl.out.symm]
        refine (form_any RD.out (by have := HLl.out; omega)).mono ?_
        rintro e w1 ⟨rfl, rfl⟩
        rw [← HXF.out]
        clear HXF
        rcases HX with ⟨m, hsc, rfl, hm⟩ | ⟨u, k, hsc, rfl⟩
        · have HE := Lib.hid (show Rd.int ⟨l, at_, 0⟩ low high = (0, ⟨l, at_, m⟩) from by
            simp only [Rd.int, Rd.step, numberF, if_true]; rw [if_neg (by have := HN.out; omega), ← HL.out, hsc.out])
          go_wp2_with fail
          refine (unfold_any 0 (by decide)).mono ?_
          rintro e w1 ⟨rfl, rfl⟩
          rw [show unfoldI 0 = 0 from rfl]
          go_wp2
          have T3 := Lib.hid (T1.out.fault m)
          obtain ⟨w3, hw3⟩ : ∃ x, x = W0.setCell ⟨w.heap.size, 2, none⟩ (.int .i64 m) := ⟨_, rfl⟩
          rw [← hw3] at T3 ⊢
          clear hw3 k0 k1 k2 k3 k4
          obtain ⟨⟨k0, k1, k2⟩, k3, k4⟩ := T3.out.boxed
          simp only at k0 k1 k2
          obtain ⟨⟨j0, j1, j2⟩, j3, j4, j5⟩ := T3.out.ans
          go_region
          go_wp2
          change bodyPost _ _ _ _ _ (set3 w3 (w.heap.size + 1) _ _ _).drew
          obtain ⟨hb, e0, e1, e2⟩ := T3.out.close (.slice A l.length c) (.int .i64 at_) (.int .i64 m)
          exact bodyPost_ret (v := .tuple #[.int .i64 0, rv A c ⟨l, at_, m⟩]) (by simp [results, Try.results65, go_sem, e0, e1, e2, rv]) rfl ⟨by rw [HE.out], hb.drew, by rw [HE.out]; exact hle⟩
        · have hu := (H64.out u k hsc.out).1
          have hk := (H64.out u k hsc.out).2
          go_wp2_with fail
          refine (unfold_any u hu).mono ?_
          rintro e w1 ⟨rfl, rfl⟩
          obtain ⟨n, hn⟩ : ∃ n, n = unfoldI u := ⟨_, rfl⟩
          rw [← hn]
          by_cases hb : n < low ∨ high < n
          · have HE := Lib.hid (show Rd.int ⟨l, at_, 0⟩ low high = (0, ⟨l, at_, 21⟩) from by
              simp only [Rd.int, Rd.step, numberF, if_true]; rw [if_neg (by have := HN.out; omega), ← HL.out, hsc.out]; simp only [← hn]; rw [if_pos hb])
            clear hu hn
            rcases hb with hb | hb
            · go_wp2
              have T3 := Lib.hid (T1.out.fault 21)
              obtain ⟨w3, hw3⟩ : ∃ x, x = W0.setCell ⟨w.heap.size, 2, none⟩ (.int .i64 21) := ⟨_, rfl⟩
              rw [← hw3] at T3 ⊢
              clear hw3 k0 k1 k2 k3 k4
              obtain ⟨⟨k0, k1, k2⟩, k3, k4⟩ := T3.out.boxed
              simp only at k0 k1 k2
              obtain ⟨⟨j0, j1, j2⟩, j3, j4, j5⟩ := T3.out.ans
              go_region
              go_wp2
              change bodyPost _ _ _ _ _ (set3 w3 (w.heap.size + 1) _ _ _).drew
              obtain ⟨hb, e0, e1, e2⟩ := T3.out.close (.slice A l.length c) (.int .i64 at_) (.int .i64 21)
              exact bodyPost_ret (v := .tuple #[.int .i64 0, rv A c ⟨l, at_, 21⟩]) (by simp [results, Try.results65, go_sem, e0, e1, e2, rv]) rfl ⟨by rw [HE.out], hb.drew, by rw [HE.out]; exact hle⟩
            · by_cases hb2 : n < low
              · exfalso; omega
              · go_wp2
                have T3 := Lib.hid (T1.out.fault 21)
                obtain ⟨w3, hw3⟩ : ∃ x, x = W0.setCell ⟨w.heap.size, 2, none⟩ (.int .i64 21) := ⟨_, rfl⟩
                rw [← hw3] at T3 ⊢
                clear hw3 k0 k1 k2 k3 k4
                obtain ⟨⟨k0, k1, k2⟩, k3, k4⟩ := T3.out.boxed
                simp only at k0 k1 k2
                obtain ⟨⟨j0, j1, j2⟩, j3, j4, j5⟩ := T3.out.ans
                go_region
                go_wp2
                change bodyPost _ _ _ _ _ (set3 w3 (w.heap.size + 1) _ _ _).drew
                obtain ⟨hb, e0, e1, e2⟩ := T3.out.close (.slice A l.length c) (.int .i64 at_) (.int .i64 21)
                exact bodyPost_ret (v := .tuple #[.int .i64 0, rv A c ⟨l, at_, 21⟩]) (by simp [results, Try.results65, go_sem, e0, e1, e2, rv]) rfl ⟨by rw [HE.out], hb.drew, by rw [HE.out]; exact hle⟩
          · obtain ⟨M, hM⟩ : ∃ M, M = at_ + k := ⟨_, rfl⟩
            have HE := Lib.hid (show Rd.int ⟨l, at_, 0⟩ low high = (n, ⟨l, M, 0⟩) from by
              simp only [Rd.int, Rd.step, numberF, if_true]; rw [if_neg (by have := HN.out; omega), ← HL.out, hsc.out]; simp only [← hn]; rw [if_neg hb, hM])
            have HM := Lib.hid hM
            have hMl : M ≤ l.length := by have := HLl.out; omega
            have hsum : at_ + k ≤ l.length := by have := HLl.out; omega
            have hb1 : ¬ n < low := fun h => hb (.inl h)
            have hb2 : ¬ high < n := fun h => hb (.inr h)
            clear hu hn hb hM
            go_wp2
            rw [show ((at_ : Int) + (k : Int)) = (M : Int) from by have := HM.out; omega]
            have T3 := Lib.hid (T1.out.place M)
            obtain ⟨w3, hw3⟩ : ∃ x, x = W0.setCell ⟨w.heap.size, 1, none⟩ (.int .i64 M) := ⟨_, rfl⟩
            rw [← hw3] at T3 ⊢
            clear hw3 k0 k1 k2 k3 k4
            obtain ⟨⟨k0, k1, k2⟩, k3, k4⟩ := T3.out.boxed
            simp only at k0 k1 k2
            obtain ⟨⟨j0, j1, j2⟩, j3, j4, j5⟩ := T3.out.ans
            go_region
            go_wp2
            change bodyPost _ _ _ _ _ (set3 w3 (w.heap.size + 1) _ _ _).drew
            obtain ⟨hb, e0, e1, e2⟩ := T3.out.close (.slice A l.length c) (.int .i64 M) (.int .i64 0)
            exact bodyPost_ret (v := .tuple #[.int .i64 n, rv A c ⟨l, M, 0⟩]) (by simp [results, Try.results65, go_sem, e0, e1, e2, rv]) rfl ⟨by rw [HE.out], hb.drew, by rw [HE.out]; exact hMl⟩
  · have HE := Lib.hid (show Rd.int ⟨l, at_, f⟩ low high = (0, ⟨l, at_, f⟩) from by simp only [Rd.int, Rd.step]; rw [if_neg hf])
    have hfb : (f == 0) = false := by simp [hf]
    clear hf
    go_enter Try.func65, Try.ntmps65
    go_wp2_with fail
    obtain ⟨W0, hW0⟩ : ∃ x, x = (w.alloc (.cells #[.slice A l.length c, .int .i64 at_, .int .i64 f] 49)).alloc (.cells #[.slice none 0 0, .int .i64 0, .int .i64 0] 49) := ⟨_, rfl⟩
    have T1 := Lib.hid (show Two w W0 A c ⟨l, at_, f⟩ from by rw [hW0]; exact Two.start w A c ⟨l, at_, f⟩)
    rw [← hW0]
    clear hW0
    obtain ⟨⟨k0, k1, k2⟩, k3, k4⟩ := T1.out.boxed
    simp only at k0 k1 k2
    obtain ⟨⟨j0, j1, j2⟩, j3, j4, j5⟩ := T1.out.ans
    go_region
    go_wp2
    change bodyPost _ _ _ _ _ (set3 W0 (w.heap.size + 1) _ _ _).drew
    obtain ⟨hb, e0, e1, e2⟩ := T1.out.close (.slice A l.length c) (.int .i64 at_) (.int .i64 f)
    exact bodyPost_ret (v := .tuple #[.int .i64 0, rv A c ⟨l, at_, f⟩]) (by simp [results, Try.results65, go_sem, e0, e1, e2, rv]) rfl ⟨by rw [HE.out], hb.drew, by rw [HE.out]; exact hle⟩
end Go.Proofs.Ytoeccclaaogihaa
