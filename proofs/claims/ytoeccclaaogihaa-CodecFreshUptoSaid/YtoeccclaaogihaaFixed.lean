/- codecFixed: the calls whose answers the document fixes. -/
import Derived.Test.YtoeccclaaogihaaRdr6
import Derived.Test.YtoeccclaaogihaaRdr7
import Derived.Test.YtoeccclaaogihaaRdr8
import Derived.Test.YtoeccclaaogihaaEqual
namespace Go.Proofs.Ytoeccclaaogihaa
open Go.RowKit

theorem lit_reads (w : World) (l : List UInt8) (cs : Array Value) (h : cs = (bys l).toArray) : BReads (w.alloc (.cells cs 5)) (w.alloc (.cells cs 5)).heap.size (some ⟨w.heap.size, 0, none⟩) l := by
  subst h
  refine ⟨by rw [bys_length, Nat.mul_one], fun _ => ⟨w.heap.size, 0, rfl, by simp, fun j u hu => ?_⟩⟩
  rw [cell_of_row _ w.heap.size (0 + j) _ 5 (0, 0) (heap_alloc_new w _), Nat.zero_add]
  simpa using hu
theorem Keeps.belowAt {g : Nat} {w w' : World} (h : Keeps (fun k => k = g) w w') {B : Nat} (hB : B ≤ w.heap.size) (hg : B ≤ g) : Below B w w' := h.below hB (fun i e => by omega)
theorem intF_small {n : Int} (h0 : -64 ≤ n) (h1 : n < 64) : intF n = [UInt8.ofNat (foldI n)] := shortF_small (by unfold foldI; split <;> omega)
set_option maxRecDepth 100000 in
theorem codecFixed_any {w : World} : Calls Try.prog 36 #[] w fun e w' => e = .returned (.bool true) ∧ Below w.heap.size w w' := by
  go_enter Try.func36, Try.ntmps36
  go_wp2_with fail
  have R0 := lit_reads w [1, 2, 128, 1, 4, 97, 98] _ rfl
  refine (open_any (l := [1, 2, 128, 1, 4, 97, 98]) R0 (by decide)).mono ?_
  rintro e w1 h
  obtain ⟨g, rfl, hg, hr, hb⟩ := h.out
  have HG := Lib.hid (show w.heap.size ≤ g from by simp at hg; omega)
  have B1 := Lib.hid (below_alloc1 hb)
  have R1 := Lib.hid hr
  clear h hg hb hr R0
  go_wp2_with fail
  refine (rdTake16_any R1.out).mono ?_
  rintro e w2 ⟨ha, hr, hk⟩
  have e2 : Rd.take ⟨[1, 2, 128, 1, 4, 97, 98], 0, 0⟩ 2 = (258, ⟨[1, 2, 128, 1, 4, 97, 98], 2, 0⟩) := by rfl
  rw [e2] at ha hr
  obtain rfl : e = .returned (.int .u16 258) := ha
  have R2 := Lib.hid hr
  have B2 := Lib.hid (B1.out.trans (hk.belowAt B1.out.size HG.out))
  clear e2 hr hk B1
  go_wp2_with fail
  refine (rdInt_any R2.out 0 64).mono ?_
  rintro e w3 ⟨ha, hr, hk⟩
  have e2 : Rd.int ⟨[1, 2, 128, 1, 4, 97, 98], 2, 0⟩ 0 64 = (64, ⟨[1, 2, 128, 1, 4, 97, 98], 4, 0⟩) := by rfl
  rw [e2] at ha hr
  obtain rfl : e = .returned (.int .i64 64) := ha
  have R3 := Lib.hid hr
  have B3 := Lib.hid (B2.out.trans (hk.belowAt B2.out.size HG.out))
  clear e2 hr hk B2
  go_wp2_with fail
  refine (rdText_any R3.out 2).mono ?_
  rintro e w4 ⟨ha, hr, hk⟩
  have e2 : Rd.bytes ⟨[1, 2, 128, 1, 4, 97, 98], 4, 0⟩ 2 = ([97, 98], ⟨[1, 2, 128, 1, 4, 97, 98], 7, 0⟩) := by rfl
  rw [e2] at ha hr
  obtain rfl : e = .returned (.string ⟨#[97, 98]⟩) := ha
  have R4 := Lib.hid hr
  have B4 := Lib.hid (B3.out.trans (hk.belowAt B3.out.size HG.out))
  clear e2 hr hk B3
  go_wp2_with fail
  refine (end_any R4.out).mono ?_
  rintro e w5 ⟨rfl, m, rfl⟩
  have e2 : Rd.end_ ⟨[1, 2, 128, 1, 4, 97, 98], 7, 0⟩ = 0 := by rfl
  rw [e2]
  have B5 := Lib.hid (below_drewN B4.out m)
  obtain ⟨w5, hw⟩ : ∃ x, x = w4.drewN m := ⟨_, rfl⟩
  rw [← hw] at B5 ⊢
  clear hw e2 R1 R2 R3 R4 HG B4
  go_wp2_with fail
  have RL := Lib.hid (lit_reads w5 [7] _ rfl)
  refine (put16_any (l := [7]) 258 RL.out (by decide) (by decide)).mono ?_
  rintro e w6 h
  obtain ⟨L6, A6, c6, rfl, E6, _, R6, B6⟩ := h.named
  have B7 := Lib.hid (B5.out.trans ((below_alloc1 B6.out).mono B5.out.size))
  clear h RL B5
  go_wp2_with fail
  have RL := Lib.hid (lit_reads w6 [7, 1, 2] _ rfl)
  have R7 := Lib.hid (R6.out.below ((Below.refl _ w6).alloc (Nat.le_refl _) (.cells #[.int .u8 7, .int .u8 1, .int .u8 2] 5)))
  refine (equal_any (b := [7, 1, 2]) R7.out RL.out (by rw [E6.out]; decide)).mono ?_
  rintro e w7 ⟨rfl, m, rfl⟩
  have HE := Lib.hid (decide_eq_true (show L6 = [7, 1, 2] from by rw [E6.out]; rfl))
  rw [HE.out]
  have B8 := Lib.hid (below_drewN (B7.out.alloc B7.out.size (.cells #[.int .u8 7, .int .u8 1, .int .u8 2] 5)) m)
  clear HE RL R7 R6 E6 B6
  go_wp2_with fail
  obtain ⟨w8, hw⟩ : ∃ x, x = (w6.alloc (.cells #[.int .u8 7, .int .u8 1, .int .u8 2] 5)).drewN m := ⟨_, rfl⟩
  rw [← hw] at B8 ⊢
  clear hw B7
  refine (putInt_any (B := 0) (l := []) (-65) Reads.none_ (by decide) (by decide) (by decide)).mono ?_
  rintro e w9 h
  obtain ⟨L9, A9, c9, rfl, E9, _, R9, B9⟩ := h.named
  have B10 := hid_below B8 B9
  clear h B8
  go_wp2_with fail
  have RL := Lib.hid (lit_reads w9 [129, 1] _ rfl)
  have R10 := Lib.hid (R9.out.below ((Below.refl _ w9).alloc (Nat.le_refl _) (.cells #[.int .u8 129, .int .u8 1] 5)))
  have e9 : L9 = [129, 1] := by rw [E9.out]; unfold intF; rw [shortF_big (by decide), shortF_small (by decide)]; rfl
  refine (equal_any (b := [129, 1]) R10.out RL.out (by rw [e9]; decide)).mono ?_
  rintro e w10 ⟨rfl, m', rfl⟩
  have HE := Lib.hid (decide_eq_true e9)
  rw [HE.out]
  have B11 := Lib.hid (below_drewN (B10.out.alloc B10.out.size (.cells #[.int .u8 129, .int .u8 1] 5)) m')
  clear HE RL R10 R9 E9 B9 e9 B10
  go_wp2_with fail
  obtain ⟨w11, hw⟩ : ∃ x, x = (w9.alloc (.cells #[.int .u8 129, .int .u8 1] 5)).drewN m' := ⟨_, rfl⟩
  rw [← hw] at B11 ⊢
  clear hw
  refine (putText_any (B := 0) (l := []) ⟨#[97]⟩ Reads.none_ (by decide) (by decide)).mono ?_
  rintro e w12 h
  obtain ⟨L12, A12, c12, rfl, E12, _, R12, B12⟩ := h.named
  have B13 := hid_below B11 B12
  clear h B11
  go_wp2_with fail
  have RL := Lib.hid (lit_reads w12 [2, 97] _ rfl)
  have R13 := Lib.hid (R12.out.below ((Below.refl _ w12).alloc (Nat.le_refl _) (.cells #[.int .u8 2, .int .u8 97] 5)))
  have e12 : L12 = [2, 97] := by rw [E12.out, intF_small (by decide) (by decide)]; rfl
  refine (equal_any (b := [2, 97]) R13.out RL.out (by rw [e12]; decide)).mono ?_
  rintro e w13 ⟨rfl, m2, rfl⟩
  have HE := Lib.hid (decide_eq_true e12)
  rw [HE.out]
  have B14 := Lib.hid (below_drewN (B13.out.alloc B13.out.size (.cells #[.int .u8 2, .int .u8 97] 5)) m2)
  clear HE RL R13 R12 E12 B12 e12 B13
  obtain ⟨w14, hw⟩ : ∃ x, x = (w12.alloc (.cells #[.int .u8 2, .int .u8 97] 5)).drewN m2 := ⟨_, rfl⟩
  rw [← hw] at B14 ⊢
  clear hw
  go_wp2_with fail
  have RL := Lib.hid (show BReads (w14.alloc (.cells #[.int .u8 5] 5)) (w14.alloc (.cells #[.int .u8 5] 5)).heap.size (some ⟨w14.heap.size, 0, none⟩) [5] from lit_reads w14 [5] _ rfl)
  have RN : BReads (w14.alloc (.cells #[.int .u8 5] 5)) 0 none [] := Reads.none_
  refine (putBytes_any (A := none) (c := 0) (c' := 1) (l := []) (p := [5]) RN RL.out (Nat.le_refl _) (by decide)).mono ?_
  rintro e w15 h
  obtain ⟨L15, A15, c15, rfl, E15, _, R15, B15⟩ := h.named
  have B16 := Lib.hid (B14.out.trans ((below_alloc1 B15.out).mono B14.out.size))
  clear h RL B14
  go_wp2_with fail
  have RL := Lib.hid (lit_reads w15 [2, 5] _ rfl)
  have R16 := Lib.hid (R15.out.below ((Below.refl _ w15).alloc (Nat.le_refl _) (.cells #[.int .u8 2, .int .u8 5] 5)))
  have e15 : L15 = [2, 5] := by rw [E15.out, intF_small (by decide) (by decide)]; rfl
  refine (equal_any (b := [2, 5]) R16.out RL.out (by rw [e15]; decide)).mono ?_
  rintro e w16 ⟨rfl, m3, rfl⟩
  have HE := Lib.hid (decide_eq_true e15)
  rw [HE.out]
  have B17 := Lib.hid (below_drewN (B16.out.alloc B16.out.size (.cells #[.int .u8 2, .int .u8 5] 5)) m3)
  clear HE RL R16 R15 E15 B15 e15 B16
  go_wp2
  go_ret
  exact ⟨rfl, B17.out⟩
end Go.Proofs.Ytoeccclaaogihaa
