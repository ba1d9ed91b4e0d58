/- The reference's reader: Take. -/
import Derived.Test.YtoeccclaaogihaaRefR2
import Derived.Deep.LoopGhost
namespace Go.Proofs.Ytoeccclaaogihaa
open Go.RowKit

/-- What a method of a reference's reader answers: the answer and the reader behind it. -/
def RvPost (w : World) (A : Option Addr) (c : Nat) (v : Value) (r : Rd) (e : Ending) (w' : World) : Prop :=
  e = .returned (.tuple #[v, rv A c r]) ∧ Below w.heap.size w w' ∧ r.at_ ≤ r.l.length

set_option maxRecDepth 100000 in
theorem refTake_any {w : World} {A : Option Addr} {c : Nat} {r : Rd} (hr : RvOk w A c r) (W : Nat) (hW : W ≤ 8) :
    Calls Try.prog 64 #[rv A c r, .int .i64 W] w (RvPost w A c (.int .u64 (r.take W).1) (r.take W).2) := by
  have H := Lib.hid hr
  have hs := hr.small
  have hle := hr.le
  clear hr
  obtain ⟨l, at_, f⟩ := r
  simp only at hs hle
  unfold rv
  by_cases hf : f = 0
  · subst hf
    have HR := Lib.hid H.out.reads
    by_cases hlt : (l.length : Int) - at_ < W
    · have HE := Lib.hid (show Rd.take ⟨l, at_, 0⟩ W = (0, ⟨l, at_, 20⟩) from by
        simp only [Rd.take, Rd.step, takeF, if_true]; rw [if_pos (by rw [List.length_drop]; omega)])
      go_enter Try.func64, Try.ntmps64
      go_wp2_with fail
      obtain ⟨W0, hW0⟩ : ∃ x, x = (w.alloc (.cells #[.slice A l.length c, .int .i64 at_, .int .i64 0] 49)).alloc (.cells #[.slice none 0 0, .int .i64 0, .int .i64 0] 49) := ⟨_, rfl⟩
      have T1 := Lib.hid (show Two w W0 A c ⟨l, at_, 0⟩ from by rw [hW0]; exact Two.start w A c ⟨l, at_, 0⟩)
      rw [← hW0]
      clear hW0
      refine (refLeft_any (A := A) (c := c) (r := ⟨l, at_, 0⟩) (H.out.below T1.out.below)).mono ?_
      rintro e w1 ⟨rfl, hb⟩
      have T2 := Lib.hid (T1.out.go hb)
      clear hb
      unfold Rd.left
      simp only
      obtain ⟨⟨k0, k1, k2⟩, k3, k4⟩ := T2.out.boxed
      simp only at k0 k1 k2
      go_wp2
      have T3 := Lib.hid (T2.out.fault 20)
      obtain ⟨w3, hw3⟩ : ∃ x, x = w1.setCell ⟨w.heap.size, 2, none⟩ (.int .i64 20) := ⟨_, rfl⟩
      rw [← hw3] at T3 ⊢
      clear hw3 k0 k1 k2 k3 k4
      obtain ⟨⟨k0, k1, k2⟩, k3, k4⟩ := T3.out.boxed
      obtain ⟨⟨j0, j1, j2⟩, j3, j4, j5⟩ := T3.out.ans
      simp only at k0 k1 k2
      go_region
      go_wp2
      change bodyPost _ _ _ _ _ (set3 w3 (w.heap.size + 1) _ _ _).drew
      obtain ⟨hb, e0, e1, e2⟩ := T3.out.close (.slice A l.length c) (.int .i64 at_) (.int .i64 20)
      refine bodyPost_ret (v := .tuple #[.int .u64 0, rv A c ⟨l, at_, 20⟩]) (by simp [results, Try.results64, go_sem, e0, e1, e2, rv]) rfl ⟨by rw [HE.out]; rfl, hb.drew, by rw [HE.out]; exact hle⟩
    · have HE := Lib.hid (show Rd.take ⟨l, at_, 0⟩ W = (beVal ((l.drop at_).take W), ⟨l, at_ + W, 0⟩) from by
        simp only [Rd.take, Rd.step, takeF, if_true]; rw [if_neg (by rw [List.length_drop]; omega)])
      have hfit : at_ + W ≤ l.length := by omega
      go_enter Try.func64, Try.ntmps64
      go_wp2_with fail
      obtain ⟨W0, hW0⟩ : ∃ x, x = (w.alloc (.cells #[.slice A l.length c, .int .i64 at_, .int .i64 0] 49)).alloc (.cells #[.slice none 0 0, .int .i64 0, .int .i64 0] 49) := ⟨_, rfl⟩
      have T1 := Lib.hid (show Two w W0 A c ⟨l, at_, 0⟩ from by rw [hW0]; exact Two.start w A c ⟨l, at_, 0⟩)
      rw [← hW0]
      clear hW0
      refine (refLeft_any (A := A) (c := c) (r := ⟨l, at_, 0⟩) (H.out.below T1.out.below)).mono ?_
      rintro e w1 ⟨rfl, hb⟩
      have T2 := Lib.hid (T1.out.go hb)
      have R2 := Lib.hid ((HR.out.below T1.out.below).below (hb.mono T1.out.below.size))
      clear hb
      unfold Rd.left
      simp only
      obtain ⟨⟨k0, k1, k2⟩, k3, k4⟩ := T2.out.boxed
      simp only at k0 k1 k2
      go_wp2
      go_loop [6, 7] (fun v i => ∃ I V : Nat, i = .int .i64 I ∧ v = .int .u64 V ∧ I ≤ W ∧ Hid (V = beVal ((l.drop at_).take I))) (fun _ i => W - (intOf i).toNat)
      case atStart => exact ⟨0, 0, rfl, rfl, Nat.zero_le _, Lib.hid rfl⟩
      case round =>
        obtain ⟨I, V, rfl, rfl, hI, hV⟩ := hrel
        by_cases hlt2 : (I : Int) < W
        · have hin : at_ + I < l.length := by omega
          obtain ⟨b1, o1, rfl, _, hc1⟩ := R2.out.at_ hin
          obtain ⟨b, hb⟩ : ∃ b, b = l[at_ + I] := ⟨_, rfl⟩
          have hd : I < (l.drop at_).length := by rw [List.length_drop]; omega
          have hbv := beVal_take hd
          have hg : (l.drop at_)[I] = b := by rw [List.getElem_drop, hb]
          have hlt3 := beVal_lt (l.drop at_) I
          rw [hg, ← hV.out] at hbv
          rw [← hV.out] at hlt3
          have h7 : V < 256 ^ 7 := Nat.lt_of_lt_of_le hlt3 (Nat.pow_le_pow_right (by decide) (by omega))
          have E1 := wrap_mul256 V h7
          have E2 := be_wrap V b h7
          rw [← hb] at hc1
          have hbl : (b.toNat : Int) < 256 := by have := b.toNat_lt; omega
          have HV := Lib.hid hbv
          have a1 : ((at_ : Int) + (I : Int)).toNat = at_ + I := by omega
          clear hbv hg hlt3 h7 hd hb
          go_wp2
          refine ⟨⟨I + 1, V * 256 + b.toNat, by go_num, by go_num, by omega, Lib.hid HV.out.symm⟩, by simp [intOf]; omega⟩
        · obtain rfl : I = W := by omega
          go_wp2
          obtain ⟨M, hM⟩ : ∃ M, M = at_ + I := ⟨_, rfl⟩
          have T3 := Lib.hid (T2.out.place M)
          rw [show ((at_ : Int) + (I : Int)) = (M : Int) from by omega]
          have HM := Lib.hid hM
          clear hM
          obtain ⟨w3, hw3⟩ : ∃ x, x = w1.setCell ⟨w.heap.size, 1, none⟩ (.int .i64 M) := ⟨_, rfl⟩
          rw [← hw3] at T3 ⊢
          clear hw3 k0 k1 k2 k3 k4
          obtain ⟨⟨k0, k1, k2⟩, k3, k4⟩ := T3.out.boxed
          obtain ⟨⟨j0, j1, j2⟩, j3, j4, j5⟩ := T3.out.ans
          simp only at k0 k1 k2
          go_region
          go_wp2
          change bodyPost _ _ _ _ _ (set3 w3 (w.heap.size + 1) _ _ _).drew
          obtain ⟨hb, e0, e1, e2⟩ := T3.out.close (.slice A l.length c) (.int .i64 M) (.int .i64 0)
          refine bodyPost_ret (v := .tuple #[.int .u64 V, rv A c ⟨l, M, 0⟩]) (by simp [results, Try.results64, go_sem, e0, e1, e2, rv]) rfl ⟨by rw [HE.out, ← hV.out, ← HM.out], hb.drew, by rw [HE.out]; exact hfit⟩
  · have HE := Lib.hid (show Rd.take ⟨l, at_, f⟩ W = (0, ⟨l, at_, f⟩) from by simp only [Rd.take, Rd.step]; rw [if_neg hf])
    have hfb : (f == 0) = false := by simp [hf]
    clear hf
    go_enter Try.func64, Try.ntmps64
    go_wp2_with fail
    obtain ⟨W0, hW0⟩ : ∃ x, x = (w.alloc (.cells #[.slice A l.length c, .int .i64 at_, .int .i64 f] 49)).alloc (.cells #[.slice none 0 0, .int .i64 0, .int .i64 0] 49) := ⟨_, rfl⟩
    have T1 := Lib.hid (show Two w W0 A c ⟨l, at_, f⟩ from by rw [hW0]; exact Two.start w A c ⟨l, at_, f⟩)
    rw [← hW0]
    clear hW0
    obtain ⟨⟨k0, k1, k2⟩, k3, k4⟩ := T1.out.boxed
    obtain ⟨⟨j0, j1, j2⟩, j3, j4, j5⟩ := T1.out.ans
    simp only at k0 k1 k2
    go_region
    go_wp2
    change bodyPost _ _ _ _ _ (set3 W0 (w.heap.size + 1) _ _ _).drew
    obtain ⟨hb, e0, e1, e2⟩ := T1.out.close (.slice A l.length c) (.int .i64 at_) (.int .i64 f)
    refine bodyPost_ret (v := .tuple #[.int .u64 0, rv A c ⟨l, at_, f⟩]) (by simp [results, Try.results64, go_sem, e0, e1, e2, rv]) rfl ⟨by rw [HE.out]; rfl, hb.drew, by rw [HE.out]; exact hle⟩
end Go.Proofs.Ytoeccclaaogihaa
