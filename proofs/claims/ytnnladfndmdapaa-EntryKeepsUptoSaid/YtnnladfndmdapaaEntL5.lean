/- EntryKeeps: the walk (printed by a program of this claim's own). -/
import Derived.Test.YtnnladfndmdapaaEntL2
import Derived.Test.YtnnladfndmdapaaEntL1
import Derived.Test.YtnnladfndmdapaaKeeps1
import Derived.Test.YtnnladfndmdapaaTwoR
namespace Go.Proofs.Ytnnladfndmdapaa
open Go.RowKit

open Classical in
/-- The bytes of an entry, or none. -/
noncomputable def encF (x : En) : List UInt8 := if x.may then x.enc else []
theorem enc_own {w w' : World} {x : En} {e : Ending} (h : EncPost w x e w') : ∃ A c f, e = .returned (.tuple #[.slice A (encF x).length c, .int .i64 f]) ∧ BOwns w' w.heap.size (.slice A (encF x).length c) (encF x) ∧ (encF x).length ≤ c ∧ Below w.heap.size w w' := by
  unfold encF
  rcases h with ⟨hm, v', rfl, ho, hb⟩ | ⟨hm, rfl, hb⟩
  · rw [if_pos hm]
    obtain ⟨A, c, rfl, hc, _⟩ := BOwns.slice ho
    exact ⟨A, c, 0, rfl, ho, hc, hb⟩
  · rw [if_neg hm]
    exact ⟨none, 0, 100, rfl, BOwns.nil _ _, Nat.le_refl _, hb⟩
theorem encF_len (x : En) : (encF x).length ≤ 5000 := by
  unfold encF; split
  · rename_i h; exact En.enc_len h
  · simp
theorem givesB_own {w w' : World} {l : List UInt8} {e : Ending} (h : GivesB w l e w') : ∃ A c, e = .returned (.slice A l.length c) ∧ BOwns w' w.heap.size (.slice A l.length c) l ∧ l.length ≤ c ∧ Below w.heap.size w w' := by
  obtain ⟨v, rfl, ho, hb⟩ := h
  obtain ⟨A, c, rfl, hc, _⟩ := BOwns.slice ho
  exact ⟨A, c, rfl, ho, hc, hb⟩
theorem reads_front {w : World} {B : Nat} {A : Option Addr} {l m : List UInt8} (h : BReads w B A (l ++ m)) : BReads w B A l := by
  refine ⟨by rw [bys_length, Nat.mul_one], fun hp => ?_⟩
  obtain ⟨b, off, e, hb, hc⟩ := h.2 (by rw [List.length_append]; omega)
  refine ⟨b, off, e, hb, fun j u hu => hc j u ?_⟩
  have hj : j < l.length := by have := (List.getElem?_eq_some_iff.1 hu).1; rwa [bys_length] at this
  rw [← hu, bys_get, bys_get, List.getElem?_append_left hj]
theorem ofWrite_len (v : Vn) : v.ofWrite.value.length ≤ v.value.length := by unfold Vn.ofWrite; split <;> simp
theorem decF_len (b : List UInt8) : (decF b).1.value.length ≤ 5000 := by
  by_cases h : ∃ y : En, y.may ∧ y.enc = b
  · obtain ⟨y, hm, he⟩ := h
    rw [decF_ok hm he]
    have := En.may_bounds hm
    show y.value.length ≤ 5000
    omega
  · rw [decF_no h]; exact Nat.zero_le _
set_option maxRecDepth 100000 in
set_option maxHeartbeats 12800000 in
theorem entryKeeps_walk0 {w : World} {A : Option Addr} {c : Nat} (x : En) (hr : BReads w w.heap.size A x.value) (later : UInt8) (hbulk : x.key.size + x.value.length ≤ 1048576) :
    Calls Try.prog 9 #[.agg (x.cells A c), .int .u8 (later.toNat : Int)] w (True_ w) := by
  have hke : x.key.size ≤ 140737488355328 := by omega
  have hle : x.value.length ≤ 1048576 := by omega
  clear hbulk
  have HR := Lib.hid hr
  obtain ⟨k, s, n, key, p, d⟩ := x
  clear hr
  unfold En.cells
  simp only at hke hle HR ⊢
  have T0 := Lib.hid (Turn.refl (x := Item.all []) (w := w) ⟨fun _ h => (by cases h), List.Pairwise.nil⟩)
  go_enter Try.func9, Try.ntmps9
  go_wp2_with fail
  obtain ⟨w1, hw1⟩ : ∃ x, x = w.alloc (.cells #[.int .i64 k, .int .i64 s, .int .i64 n, .string key, .slice A p.length c, .bool d] 25) := ⟨_, rfl⟩
  obtain ⟨g2, hg2⟩ : ∃ x, x = w.heap.size := ⟨_, rfl⟩
  have T1 := Lib.hid (show Turn _ _ _ w1 from by rw [hw1]; exact T0.out.more (y := Item.blk g2 25 #[.int .i64 k, .int .i64 s, .int .i64 n, .string key, .slice A p.length c, .bool d]) ((Below.refl _ _).alloc (Nat.le_refl _) _) (by rw [hg2]; exact Blk.new _ _ _) (fun k hk => by cases hk; rw [hg2]; exact Nat.le_refl _))
  rw [← hw1, ← hg2]
  clear hw1 hg2 T0
  refine awake_any.mono ?_
  rintro e w2 ⟨rfl, hb⟩
  have T2 := Lib.hid (T1.out.go hb)
  clear hb T1
  have K2 := Lib.hid (show Blk w2 g2 25 #[.int .i64 k, .int .i64 s, .int .i64 n, .string key, .slice A p.length c, .bool d] from T2.out.get (i := 0) rfl)
  have q0 := K2.out.cell 0
  have q1 := K2.out.cell 1
  have q2 := K2.out.cell 2
  have q3 := K2.out.cell 3
  have q4 := K2.out.cell 4
  have q5 := K2.out.cell 5
  simp only [List.getElem?_toArray, List.getElem?_cons_zero, List.getElem?_cons_succ] at q0 q1 q2 q3 q4 q5
  go_wp2_with fail
  clear q0 q1 q2 q3 q4 q5 K2
  refine (rencode_any (A := A) (c := c) ⟨k, s, n, key, p, d⟩ ((HR.out.below T2.out.free).more T2.out.free.size) hke (by simp only; omega)).mono ?_
  rintro e w3 h
  obtain ⟨A5, c5, f5, rfl, ho, hc5, hb⟩ := enc_own h
  obtain ⟨want, hwant⟩ : ∃ x, x = encF ⟨k, s, n, key, p, d⟩ := ⟨_, rfl⟩
  rw [← hwant] at ho hc5 ⊢
  have HWANT := Lib.hid hwant
  have hwl : want.length ≤ 5000 := by rw [hwant]; exact encF_len _
  clear h hwant
  have T3 := Lib.hid (T2.out.more (y := Item.row (.slice A5 want.length c5) want) hb (owns_less ho (Nat.zero_le _)) (fun k hk => (ho.lt hk).1))
  clear hb ho T2
  have K2 := Lib.hid (show Blk w3 g2 25 #[.int .i64 k, .int .i64 s, .int .i64 n, .string key, .slice A p.length c, .bool d] from T3.out.get (i := 1) rfl)
  have q0 := K2.out.cell 0
  have q1 := K2.out.cell 1
  have q2 := K2.out.cell 2
  have q3 := K2.out.cell 3
  have q4 := K2.out.cell 4
  have q5 := K2.out.cell 5
  simp only [List.getElem?_toArray, List.getElem?_cons_zero, List.getElem?_cons_succ] at q0 q1 q2 q3 q4 q5
  go_wp2_with fail
  clear q0 q1 q2 q3 q4 q5 K2
  refine (withRoom_any (c := c) ((HR.out.below T3.out.free).more T3.out.free.size) (by omega)).mono ?_
  rintro e w4 h
  obtain ⟨A7, c7, rfl, ho, hc7, hb⟩ := givesB_own h
  obtain ⟨full, hfull⟩ : ∃ x, x = p ++ gaps 70 := ⟨_, rfl⟩
  rw [← hfull] at ho hc7 ⊢
  have HFULL := Lib.hid hfull
  have hfl1 : p.length + 70 ≤ full.length := by rw [hfull, List.length_append, gaps_length]; omega
  have hfl2 : full.length ≤ p.length + 70 := by rw [hfull, List.length_append, gaps_length]; omega
  obtain ⟨g7, rfl, _, _, _, _⟩ := BOwns.block ho (by omega)
  clear h hfull
  have T4 := Lib.hid (T3.out.more (y := Item.row (.slice (some ⟨g7, 0, none⟩) full.length c7) full) hb (owns_less ho (Nat.zero_le _)) (fun k hk => (ho.lt hk).1))
  clear hb ho T3
  have K2 := Lib.hid (show Blk w4 g2 25 #[.int .i64 k, .int .i64 s, .int .i64 n, .string key, .slice A p.length c, .bool d] from T4.out.get (i := 2) rfl)
  have q0 := K2.out.cell 0
  have q1 := K2.out.cell 1
  have q2 := K2.out.cell 2
  have q3 := K2.out.cell 3
  have q4 := K2.out.cell 4
  have q5 := K2.out.cell 5
  simp only [List.getElem?_toArray, List.getElem?_cons_zero, List.getElem?_cons_succ] at q0 q1 q2 q3 q4 q5
  go_upto_region 6 with fail
  clear q0 q1 q2 q3 q4 q5 K2
  obtain ⟨w5, hw5⟩ : ∃ x, x = w4.alloc (.cells #[.int .i64 k, .int .i64 s, .int .i64 n, .string key, .slice A p.length c, .bool d] 25) := ⟨_, rfl⟩
  obtain ⟨g8, hg8⟩ : ∃ x, x = w4.heap.size := ⟨_, rfl⟩
  have T5 := Lib.hid (show Turn _ _ _ w5 from by rw [hw5]; exact T4.out.more (y := Item.blk g8 25 #[.int .i64 k, .int .i64 s, .int .i64 n, .string key, .slice A p.length c, .bool d]) ((Below.refl _ _).alloc (Nat.le_refl _) _) (by rw [hg8]; exact Blk.new _ _ _) (fun k hk => by cases hk; rw [hg8]; exact Nat.le_refl _))
  rw [← hw5, ← hg8]
  clear hw5 hg8 T4
  have K2 := Lib.hid (show Blk w5 g2 25 #[.int .i64 k, .int .i64 s, .int .i64 n, .string key, .slice A p.length c, .bool d] from T5.out.get (i := 3) rfl)
  have q0 := K2.out.cell 0
  have q1 := K2.out.cell 1
  have q2 := K2.out.cell 2
  have q3 := K2.out.cell 3
  have q4 := K2.out.cell 4
  have q5 := K2.out.cell 5
  simp only [List.getElem?_toArray, List.getElem?_cons_zero, List.getElem?_cons_succ] at q0 q1 q2 q3 q4 q5
  have K8 := Lib.hid (show Blk w5 g8 25 #[.int .i64 k, .int .i64 s, .int .i64 n, .string key, .slice A p.length c, .bool d] from T5.out.get (i := 0) rfl)
  have fr4 := K8.out.frozen 4
  have z0 := K8.out.cell 0
  have z1 := K8.out.cell 1
  have z2 := K8.out.cell 2
  have z3 := K8.out.cell 3
  have z4 := K8.out.cell 4
  have z5 := K8.out.cell 5
  simp only [List.getElem?_toArray, List.getElem?_cons_zero, List.getElem?_cons_succ] at z0 z1 z2 z3 z4 z5
  have hp7 : p.length ≤ c7 := by omega
  have hp7' : (p.length : Int) ≤ (c7 : Int) := by omega
  have hpf : p.length ≤ full.length := by omega
  go_upto_region 7 with fail
  clear q0 q1 q2 q3 q4 q5 K2 z0 z1 z2 z3 z4 z5
  obtain ⟨w6, hw6⟩ : ∃ x, x = w5.setCell ⟨g8, 4, none⟩ (.slice (some ⟨g7, 0, none⟩) p.length c7) := ⟨_, rfl⟩
  have T6 := Lib.hid (show Turn _ _ _ w6 from by rw [hw6]; exact T5.out.step (i := 0) rfl (y := Item.blk g8 25 #[.int .i64 k, .int .i64 s, .int .i64 n, .string key, .slice (some ⟨g7, 0, none⟩) p.length c7, .bool d]) (Turn.cell K8.out 4 (.slice (some ⟨g7, 0, none⟩) p.length c7)))
  rw [← hw6]
  clear hw6 T5
  clear K8
  have K2 := Lib.hid (show Blk w6 g2 25 #[.int .i64 k, .int .i64 s, .int .i64 n, .string key, .slice A p.length c, .bool d] from T6.out.get (i := 3) rfl)
  have q0 := K2.out.cell 0
  have q1 := K2.out.cell 1
  have q2 := K2.out.cell 2
  have q3 := K2.out.cell 3
  have q4 := K2.out.cell 4
  have q5 := K2.out.cell 5
  simp only [List.getElem?_toArray, List.getElem?_cons_zero, List.getElem?_cons_succ] at q0 q1 q2 q3 q4 q5
  have K8 := Lib.hid (show Blk w6 g8 25 #[.int .i64 k, .int .i64 s, .int .i64 n, .string key, .slice (some ⟨g7, 0, none⟩) p.length c7, .bool d] from T6.out.get (i := 0) rfl)
  have z0 := K8.out.cell 0
  have z1 := K8.out.cell 1
  have z2 := K8.out.cell 2
  have z3 := K8.out.cell 3
  have z4 := K8.out.cell 4
  have z5 := K8.out.cell 5
  simp only [List.getElem?_toArray, List.getElem?_cons_zero, List.getElem?_cons_succ] at z0 z1 z2 z3 z4 z5
  go_upto_region 8 with fail
  clear q0 q1 q2 q3 q4 q5 K2 z0 z1 z2 z3 z4 z5 K8
  obtain ⟨w7, hw7⟩ : ∃ x, x = w6.alloc (.cells #[.string key, .int .i64 s, .slice (some ⟨g7, 0, none⟩) p.length c7, .bool d] 43) := ⟨_, rfl⟩
  obtain ⟨g9, hg9⟩ : ∃ x, x = w6.heap.size := ⟨_, rfl⟩
  have T7 := Lib.hid (show Turn _ _ _ w7 from by rw [hw7]; exact T6.out.more (y := Item.blk g9 43 #[.string key, .int .i64 s, .slice (some ⟨g7, 0, none⟩) p.length c7, .bool d]) ((Below.refl _ _).alloc (Nat.le_refl _) _) (by rw [hg9]; exact Blk.new _ _ _) (fun k hk => by cases hk; rw [hg9]; exact Nat.le_refl _))
  rw [← hw7, ← hg9]
  clear hw7 hg9 T6
  have K8 := Lib.hid (show Blk w7 g8 25 #[.int .i64 k, .int .i64 s, .int .i64 n, .string key, .slice (some ⟨g7, 0, none⟩) p.length c7, .bool d] from T7.out.get (i := 1) rfl)
  have z0 := K8.out.cell 0
  have z1 := K8.out.cell 1
  have z2 := K8.out.cell 2
  have z3 := K8.out.cell 3
  have z4 := K8.out.cell 4
  have z5 := K8.out.cell 5
  simp only [List.getElem?_toArray, List.getElem?_cons_zero, List.getElem?_cons_succ] at z0 z1 z2 z3 z4 z5
  go_wp2_with fail
  clear z0 z1 z2 z3 z4 z5 K8
  have HF := Lib.hid (show BReads w7 w7.heap.size (some ⟨g7, 0, none⟩) p from reads_front (m := gaps 70) (by rw [← HFULL.out]; exact (BOwns.reads (T7.out.get (i := 2) rfl))))
  refine (encode_any (A := some ⟨g7, 0, none⟩) (c := c7) ⟨k, s, n, key, p, d⟩ HF.out hke (by simp only; omega)).mono ?_
  rintro e w8 h
  obtain ⟨A10, c10, f10, rfl, ho, hcx, hb⟩ := enc_own h
  rw [← HWANT.out] at ho hcx ⊢
  clear h HF hcx
  have T8 := Lib.hid (T7.out.more (y := Item.row (.slice A10 want.length c10) want) hb (owns_less ho (Nat.zero_le _)) (fun k hk => (ho.lt hk).1))
  clear hb ho T7
  have K8 := Lib.hid (show Blk w8 g8 25 #[.int .i64 k, .int .i64 s, .int .i64 n, .string key, .slice (some ⟨g7, 0, none⟩) p.length c7, .bool d] from T8.out.get (i := 2) rfl)
  have z0 := K8.out.cell 0
  have z1 := K8.out.cell 1
  have z2 := K8.out.cell 2
  have z3 := K8.out.cell 3
  have z4 := K8.out.cell 4
  have z5 := K8.out.cell 5
  simp only [List.getElem?_toArray, List.getElem?_cons_zero, List.getElem?_cons_succ] at z0 z1 z2 z3 z4 z5
  go_wp2_with fail
  clear z0 z1 z2 z3 z4 z5 K8
  have HF := Lib.hid (show BReads w8 w8.heap.size (some ⟨g7, 0, none⟩) p from reads_front (m := gaps 70) (by rw [← HFULL.out]; exact (BOwns.reads (T8.out.get (i := 3) rfl))))
  refine (encode_any (A := some ⟨g7, 0, none⟩) (c := c7) ⟨k, s, n, key, p, d⟩ HF.out hke (by simp only; omega)).mono ?_
  rintro e w9 h
  obtain ⟨A12, c12, f12, rfl, ho, hcx, hb⟩ := enc_own h
  rw [← HWANT.out] at ho hcx ⊢
  clear h HF hcx
  have T9 := Lib.hid (T8.out.more (y := Item.row (.slice A12 want.length c12) want) hb (owns_less ho (Nat.zero_le _)) (fun k hk => (ho.lt hk).1))
  clear hb ho T8
  go_upto_region 10 with fail
  obtain ⟨X, hX⟩ : ∃ x, x = Vn.ofWrite ⟨key, s, p, d⟩ := ⟨_, rfl⟩
  obtain ⟨Y, hY⟩ : ∃ x, x = Vn.ofVersion ⟨key, s, p, d⟩ := ⟨_, rfl⟩
  have HX := Lib.hid hX
  have HY := Lib.hid hY
  clear hX hY
  refine two_region (s9 := 9) (s1 := 67) (s2 := 68) (s3 := 69) (s4 := 70) (d1 := 14) (d2 := 15) (ps := "law.go:139") X Y (by decide) (fun q hq => (by decide : ∀ q ∈ ([9, 67, 68, 69, 70, 14, 15] : List Nat), q < 203) q hq) rfl (List.mem_of_getElem? (i := 2) (a := Item.blk g9 43 #[.string key, .int .i64 s, .slice (some ⟨g7, 0, none⟩) p.length c7, .bool d]) rfl)
    (fun caps w => callFunc_enter 27 Try.f27 _ Try.func27 rfl (by kernel_rfl) caps w) (fun caps w => callFunc_enter 29 Try.f29 _ Try.func29 rfl (by kernel_rfl) caps w)
    (fun N w h => by rw [HX.out]; exact ofWrite_any (c := c7) ⟨key, s, p, d⟩ (reads_front (m := gaps 70) (by rw [← HFULL.out]; exact BOwns.reads (Item.all_get h (x := Item.row (.slice (some ⟨g7, 0, none⟩) full.length c7) full) (List.mem_append_right _ (List.mem_of_getElem? (i := 4) rfl))))) (by simp only; omega))
    (fun N w h => by rw [HY.out]; exact ofVersion_any (c := c7) ⟨key, s, p, d⟩ (reads_front (m := gaps 70) (by rw [← HFULL.out]; exact BOwns.reads (Item.all_get h (x := Item.row (.slice (some ⟨g7, 0, none⟩) full.length c7) full) (List.mem_append_right _ (List.mem_of_getElem? (i := 4) rfl))))) (by simp only; omega)) T9.out ?_
  intro a w10 A14 A15 c14 c15 g14 g15 u1 u2 u3 u4 ha hT
  have T10 := Lib.hid hT
  simp only [List.setIfInBounds_toArray, List.set_cons_zero, List.set_cons_succ] at ha
  subst ha
  clear hT T9
  obtain ⟨⟨⟨key3, s3, p3, d3⟩, b3⟩, hz⟩ : ∃ x, x = En.version ⟨k, s, n, key, p, d⟩ := ⟨_, rfl⟩
  have HZ := Lib.hid hz
  clear hz
  have K8 := Lib.hid (show Blk w10 g8 25 #[.int .i64 k, .int .i64 s, .int .i64 n, .string key, .slice (some ⟨g7, 0, none⟩) p.length c7, .bool d] from T10.out.get (i := 7) rfl)
  have z0 := K8.out.cell 0
  have z1 := K8.out.cell 1
  have z2 := K8.out.cell 2
  have z3 := K8.out.cell 3
  have z4 := K8.out.cell 4
  have z5 := K8.out.cell 5
  simp only [List.getElem?_toArray, List.getElem?_cons_zero, List.getElem?_cons_succ] at z0 z1 z2 z3 z4 z5
  go_wp2_with fail
  clear z0 z1 z2 z3 z4 z5 K8
  have HF := Lib.hid (show BReads w10 w10.heap.size (some ⟨g7, 0, none⟩) p from reads_front (m := gaps 70) (by rw [← HFULL.out]; exact (BOwns.reads (T10.out.get (i := 8) rfl))))
  refine (version_any (A := some ⟨g7, 0, none⟩) (c := c7) ⟨k, s, n, key, p, d⟩ HF.out (by simp only; omega)).mono ?_
  rintro e w11 h
  rw [← HZ.out] at h
  obtain ⟨A16, c16, he, ho, hb⟩ := h
  obtain rfl : e = .returned (.tuple #[.agg #[.string key3, .int .i64 s3, .slice A16 p3.length c16, .bool d3], .bool b3]) := he
  clear HF
  have T11 := Lib.hid (T10.out.more (y := Item.row (.slice A16 p3.length c16) p3) hb (owns_less ho (Nat.zero_le _)) (fun k hk => (ho.lt hk).1))
  clear hb ho T10
  go_upto_region 12 with fail
  obtain ⟨w12, hw12⟩ : ∃ x, x = w11.alloc (.cells #[.string key3, .int .i64 s3, .slice A16 p3.length c16, .bool d3] 43) := ⟨_, rfl⟩
  obtain ⟨g16, hg16⟩ : ∃ x, x = w11.heap.size := ⟨_, rfl⟩
  have T12 := Lib.hid (show Turn _ _ _ w12 from by rw [hw12]; exact T11.out.more (y := Item.blk g16 43 #[.string key3, .int .i64 s3, .slice A16 p3.length c16, .bool d3]) ((Below.refl _ _).alloc (Nat.le_refl _) _) (by rw [hg16]; exact Blk.new _ _ _) (fun k hk => by cases hk; rw [hg16]; exact Nat.le_refl _))
  rw [← hw12, ← hg16]
  clear hw12 hg16 T11
  have K8 := Lib.hid (show Blk w12 g8 25 #[.int .i64 k, .int .i64 s, .int .i64 n, .string key, .slice (some ⟨g7, 0, none⟩) p.length c7, .bool d] from T12.out.get (i := 9) rfl)
  have z0 := K8.out.cell 0
  have z1 := K8.out.cell 1
  have z2 := K8.out.cell 2
  have z3 := K8.out.cell 3
  have z4 := K8.out.cell 4
  have z5 := K8.out.cell 5
  simp only [List.getElem?_toArray, List.getElem?_cons_zero, List.getElem?_cons_succ] at z0 z1 z2 z3 z4 z5
  go_wp2_with fail
  clear z0 z1 z2 z3 z4 z5 K8
  refine (check_any (A := some ⟨g7, 0, none⟩) (c := c7) ⟨k, s, n, key, p, d⟩ hke (by simp only; omega)).mono ?_
  rintro e w13 ⟨rfl, hb⟩
  have T13 := Lib.hid (T12.out.go hb)
  clear hb T12
  have K2 := Lib.hid (show Blk w13 g2 25 #[.int .i64 k, .int .i64 s, .int .i64 n, .string key, .slice A p.length c, .bool d] from T13.out.get (i := 12) rfl)
  have q0 := K2.out.cell 0
  have q1 := K2.out.cell 1
  have q2 := K2.out.cell 2
  have q3 := K2.out.cell 3
  have q4 := K2.out.cell 4
  have q5 := K2.out.cell 5
  simp only [List.getElem?_toArray, List.getElem?_cons_zero, List.getElem?_cons_succ] at q0 q1 q2 q3 q4 q5
  go_wp2_with fail
  clear q0 q1 q2 q3 q4 q5 K2
  refine (stays_any (BOwns.reads (T13.out.get (i := 10) rfl)) ((HR.out.below T13.out.free).more T13.out.free.size) (by omega) HFULL.out).mono ?_
  rintro e w14 ⟨rfl, hb⟩
  have T14 := Lib.hid (T13.out.go hb)
  clear hb T13
  go_upto_region 15 with fail
  refine two_region (s9 := 9) (s1 := 83) (s2 := 84) (s3 := 85) (s4 := 86) (d1 := 18) (d2 := 19) (ps := "law.go:145") X Y (by decide) (fun q hq => (by decide : ∀ q ∈ ([9, 83, 84, 85, 86, 18, 19] : List Nat), q < 203) q hq) rfl (List.mem_of_getElem? (i := 8) (a := Item.blk g9 43 #[.string key, .int .i64 s, .slice (some ⟨g7, 0, none⟩) p.length c7, .bool d]) rfl)
    (fun caps w => callFunc_enter 28 Try.f28 _ Try.func28 rfl (by kernel_rfl) caps w) (fun caps w => callFunc_enter 30 Try.f30 _ Try.func30 rfl (by kernel_rfl) caps w)
    (fun N w h => by rw [HX.out]; exact rofWrite_any (c := c7) ⟨key, s, p, d⟩ (reads_front (m := gaps 70) (by rw [← HFULL.out]; exact BOwns.reads (Item.all_get h (x := Item.row (.slice (some ⟨g7, 0, none⟩) full.length c7) full) (List.mem_append_right _ (List.mem_of_getElem? (i := 10) rfl))))) (by simp only; omega))
    (fun N w h => by rw [HY.out]; exact rofVersion_any (c := c7) ⟨key, s, p, d⟩ (reads_front (m := gaps 70) (by rw [← HFULL.out]; exact BOwns.reads (Item.all_get h (x := Item.row (.slice (some ⟨g7, 0, none⟩) full.length c7) full) (List.mem_append_right _ (List.mem_of_getElem? (i := 10) rfl))))) (by simp only; omega)) T14.out ?_
  intro a w15 A18 A19 c18 c19 g18 g19 u1 u2 u3 u4 ha hT
  have T15 := Lib.hid hT
  simp only [List.setIfInBounds_toArray, List.set_cons_zero, List.set_cons_succ] at ha
  subst ha
  clear hT T14
  have K2 := Lib.hid (show Blk w15 g2 25 #[.int .i64 k, .int .i64 s, .int .i64 n, .string key, .slice A p.length c, .bool d] from T15.out.get (i := 16) rfl)
  have q0 := K2.out.cell 0
  have q1 := K2.out.cell 1
  have q2 := K2.out.cell 2
  have q3 := K2.out.cell 3
  have q4 := K2.out.cell 4
  have q5 := K2.out.cell 5
  simp only [List.getElem?_toArray, List.getElem?_cons_zero, List.getElem?_cons_succ] at q0 q1 q2 q3 q4 q5
  go_wp2_with fail
  clear q0 q1 q2 q3 q4 q5 K2
  refine (rversion_any (A := A) (c := c) ⟨k, s, n, key, p, d⟩ ((HR.out.below T15.out.free).more T15.out.free.size) (by simp only; omega)).mono ?_
  rintro e w16 h
  rw [← HZ.out] at h
  obtain ⟨A20, c20, he, ho, hb⟩ := h
  obtain rfl : e = .returned (.tuple #[.agg #[.string key3, .int .i64 s3, .slice A20 p3.length c20, .bool d3], .bool b3]) := he
  have T16 := Lib.hid (T15.out.more (y := Item.row (.slice A20 p3.length c20) p3) hb (owns_less ho (Nat.zero_le _)) (fun k hk => (ho.lt hk).1))
  clear hb ho T15
  go_upto_region 17 with fail
  obtain ⟨w17, hw17⟩ : ∃ x, x = w16.alloc (.cells #[.string key3, .int .i64 s3, .slice A20 p3.length c20, .bool d3] 43) := ⟨_, rfl⟩
  obtain ⟨g20, hg20⟩ : ∃ x, x = w16.heap.size := ⟨_, rfl⟩
  have T17 := Lib.hid (show Turn _ _ _ w17 from by rw [hw17]; exact T16.out.more (y := Item.blk g20 43 #[.string key3, .int .i64 s3, .slice A20 p3.length c20, .bool d3]) ((Below.refl _ _).alloc (Nat.le_refl _) _) (by rw [hg20]; exact Blk.new _ _ _) (fun k hk => by cases hk; rw [hg20]; exact Nat.le_refl _))
  rw [← hw17, ← hg20]
  clear hw17 hg20 T16
  go_wp2
  have HFO := Lib.hid (show BOwns w17 0 (.slice (some ⟨g7, 0, none⟩) full.length c7) full from T17.out.get (i := 16) rfl)
  go_loopw [22] (fun i wr => ∃ I : Nat, i = .int .i64 I ∧ I ≤ full.length ∧ Hid (BOwns wr 0 (.slice (some ⟨g7, 0, none⟩) full.length c7) (fillL later I full)) ∧ Hid (Keeps (fun k => some k = (Value.slice (some ⟨g7, 0, none⟩) full.length c7).ownBlock) w17 wr)) (fun i _ => full.length - (intOf i).toNat)
  case atStart => exact ⟨0, rfl, by omega, HFO, Lib.hid (Keeps.refl _ _)⟩
  case round =>
    obtain ⟨I, rfl, hI, hO, hKL⟩ := hrel
    by_cases hlt : (I : Int) < full.length
    · obtain ⟨gx, ux, hAx, f1, c1, HO, HK⟩ := fill_step (m := (later.toNat : Int)) hO.out (by omega) rfl hKL.out
      obtain rfl : g7 = gx := by injection hAx with e; injection e
      clear hO hKL
      go_wp2
      exact ⟨⟨I + 1, by go_num, by omega, HO, HK⟩, by simp [intOf]; omega⟩
    obtain ⟨w18, hw18⟩ : ∃ x, x = wr := ⟨_, rfl⟩
    rw [← hw18] at hO hKL ⊢
    have T18 := Lib.hid (T17.out.step (i := 16) rfl (Turn.toNone (hKL.out.mono (fun i hi => .inl hi.symm))))
    clear T17
    clear hw18 hO hKL HFO
    obtain ⟨m1, hm1'⟩ : ∃ y : UInt8, ((later.toNat : Int) + 1) % 256 = (y.toNat : Int) := ⟨UInt8.ofNat ((later.toNat + 1) % 256), by rw [u8_int _ (by omega)]; omega⟩
    have hm1 : IntKind.u8.wrap ((later.toNat : Int) + 1) = (m1.toNat : Int) := by rw [IntKind.wrap_u8]; exact hm1'
    clear hm1'
    go_wp2_with fail
    refine (spoil_any m1 (by rfl) (show BOwns w18 0 (.slice A10 want.length c10) want from T18.out.get (i := 13) rfl) (Nat.zero_le _) (by omega)).mono ?_
    rintro e w19 ⟨rfl, hk⟩
    have T19 := Lib.hid (T18.out.step (i := 13) rfl (Turn.toNone (hk.mono (fun i hi => .inl hi.symm))))
    clear T18
    clear hk
    clear hm1
    have k1 := conv_text (BOwns.reads (T19.out.get (i := 12) rfl)) c12
    have k2 := conv_text (BOwns.reads (T19.out.get (i := 17) rfl)) c5
    obtain ⟨tx, htx⟩ : ∃ t : ByteArray, t = ⟨want.toArray⟩ := ⟨_, rfl⟩
    rw [← htx] at k1 k2
    clear htx
    obtain ⟨kx, sx, nx, keyx, px, dx⟩ := X
    obtain ⟨ky, sy, ny, keyy, py, dy⟩ := Y
    have K14 := Lib.hid (show Blk w19 g14 25 #[.int .i64 kx, .int .i64 sx, .int .i64 nx, .string keyx, .slice A14 px.length c14, .bool dx] from T19.out.get (i := 8) rfl)
    have q0 := K14.out.cell 0
    have q1 := K14.out.cell 1
    have q2 := K14.out.cell 2
    have q3 := K14.out.cell 3
    have q4 := K14.out.cell 4
    have q5 := K14.out.cell 5
    simp only [List.getElem?_toArray, List.getElem?_cons_zero, List.getElem?_cons_succ] at q0 q1 q2 q3 q4 q5
    have K18 := Lib.hid (show Blk w19 g18 25 #[.int .i64 kx, .int .i64 sx, .int .i64 nx, .string keyx, .slice A18 px.length c18, .bool dx] from T19.out.get (i := 2) rfl)
    have z0 := K18.out.cell 0
    have z1 := K18.out.cell 1
    have z2 := K18.out.cell 2
    have z3 := K18.out.cell 3
    have z4 := K18.out.cell 4
    have z5 := K18.out.cell 5
    simp only [List.getElem?_toArray, List.getElem?_cons_zero, List.getElem?_cons_succ] at z0 z1 z2 z3 z4 z5
    go_wp2_with fail
    clear q0 q1 q2 q3 q4 q5 K14 z0 z1 z2 z3 z4 z5 K18
    clear k1 k2
    have hpx : px.length ≤ 1048576 := by have h1 := congrArg (fun e : En => e.value.length) HX.out; simp only at h1; rw [h1]; exact Nat.le_trans (ofWrite_len _) hle
    have hpy : py.length ≤ 1048576 := by have h1 := congrArg (fun e : En => e.value.length) HY.out; simp only at h1; rw [h1]; exact hle
    refine (same_any (A := A14) (A' := A18) (c := c14) (c' := c18) ⟨kx, sx, nx, keyx, px, dx⟩ (BOwns.reads (T19.out.get (i := 10) rfl)) (BOwns.reads (T19.out.get (i := 4) rfl))).mono ?_
    rintro e w20 ⟨rfl, hb⟩
    have T20 := Lib.hid (T19.out.go hb)
    clear hb T19
    have K15 := Lib.hid (show Blk w20 g15 25 #[.int .i64 ky, .int .i64 sy, .int .i64 ny, .string keyy, .slice A15 py.length c15, .bool dy] from T20.out.get (i := 9) rfl)
    have q0 := K15.out.cell 0
    have q1 := K15.out.cell 1
    have q2 := K15.out.cell 2
    have q3 := K15.out.cell 3
    have q4 := K15.out.cell 4
    have q5 := K15.out.cell 5
    simp only [List.getElem?_toArray, List.getElem?_cons_zero, List.getElem?_cons_succ] at q0 q1 q2 q3 q4 q5
    have K19 := Lib.hid (show Blk w20 g19 25 #[.int .i64 ky, .int .i64 sy, .int .i64 ny, .string keyy, .slice A19 py.length c19, .bool dy] from T20.out.get (i := 3) rfl)
    have z0 := K19.out.cell 0
    have z1 := K19.out.cell 1
    have z2 := K19.out.cell 2
    have z3 := K19.out.cell 3
    have z4 := K19.out.cell 4
    have z5 := K19.out.cell 5
    simp only [List.getElem?_toArray, List.getElem?_cons_zero, List.getElem?_cons_succ] at z0 z1 z2 z3 z4 z5
    go_wp2_with fail
    clear q0 q1 q2 q3 q4 q5 K15 z0 z1 z2 z3 z4 z5 K19
    refine (same_any (A := A15) (A' := A19) (c := c15) (c' := c19) ⟨ky, sy, ny, keyy, py, dy⟩ (BOwns.reads (T20.out.get (i := 11) rfl)) (BOwns.reads (T20.out.get (i := 5) rfl))).mono ?_
    rintro e w21 ⟨rfl, hb⟩
    have T21 := Lib.hid (T20.out.go hb)
    clear hb T20
    have K16 := Lib.hid (show Blk w21 g16 43 #[.string key3, .int .i64 s3, .slice A16 p3.length c16, .bool d3] from T21.out.get (i := 6) rfl)
    have q0 := K16.out.cell 0
    have q1 := K16.out.cell 1
    have q2 := K16.out.cell 2
    have q3 := K16.out.cell 3
    simp only [List.getElem?_toArray, List.getElem?_cons_zero, List.getElem?_cons_succ] at q0 q1 q2 q3
    have K20 := Lib.hid (show Blk w21 g20 43 #[.string key3, .int .i64 s3, .slice A20 p3.length c20, .bool d3] from T21.out.get (i := 0) rfl)
    have z0 := K20.out.cell 0
    have z1 := K20.out.cell 1
    have z2 := K20.out.cell 2
    have z3 := K20.out.cell 3
    simp only [List.getElem?_toArray, List.getElem?_cons_zero, List.getElem?_cons_succ] at z0 z1 z2 z3
    go_wp2_with fail
    clear q0 q1 q2 q3 K16 z0 z1 z2 z3 K20
    refine (sameVersion_any (A := A16) (A' := A20) (c := c16) (c' := c20) ⟨key3, s3, p3, d3⟩ (BOwns.reads (T21.out.get (i := 7) rfl)) (BOwns.reads (T21.out.get (i := 1) rfl))).mono ?_
    rintro e w22 ⟨rfl, hb⟩
    have T22 := Lib.hid (T21.out.go hb)
    clear hb T21
    obtain ⟨m2, hm2'⟩ : ∃ y : UInt8, ((later.toNat : Int) + 2) % 256 = (y.toNat : Int) := ⟨UInt8.ofNat ((later.toNat + 2) % 256), by rw [u8_int _ (by omega)]; omega⟩
    have hm2 : IntKind.u8.wrap ((later.toNat : Int) + 2) = (m2.toNat : Int) := by rw [IntKind.wrap_u8]; exact hm2'
    clear hm2'
    have K14 := Lib.hid (show Blk w22 g14 25 #[.int .i64 kx, .int .i64 sx, .int .i64 nx, .string keyx, .slice A14 px.length c14, .bool dx] from T22.out.get (i := 8) rfl)
    have q0 := K14.out.cell 0
    have q1 := K14.out.cell 1
    have q2 := K14.out.cell 2
    have q3 := K14.out.cell 3
    have q4 := K14.out.cell 4
    have q5 := K14.out.cell 5
    simp only [List.getElem?_toArray, List.getElem?_cons_zero, List.getElem?_cons_succ] at q0 q1 q2 q3 q4 q5
    go_wp2_with fail
    clear q0 q1 q2 q3 q4 q5 K14
    refine (spoil_any m2 (by rfl) (show BOwns w22 0 (.slice A14 px.length c14) px from T22.out.get (i := 10) rfl) (Nat.zero_le _) (by omega)).mono ?_
    rintro e w23 ⟨rfl, hk⟩
    have T23 := Lib.hid (T22.out.step (i := 10) rfl (Turn.toNone (hk.mono (fun i hi => .inl hi.symm))))
    clear T22
    clear hk
    clear hm2
    obtain ⟨m3, hm3'⟩ : ∃ y : UInt8, ((later.toNat : Int) + 3) % 256 = (y.toNat : Int) := ⟨UInt8.ofNat ((later.toNat + 3) % 256), by rw [u8_int _ (by omega)]; omega⟩
    have hm3 : IntKind.u8.wrap ((later.toNat : Int) + 3) = (m3.toNat : Int) := by rw [IntKind.wrap_u8]; exact hm3'
    clear hm3'
    have K14 := Lib.hid (show Blk w23 g15 25 #[.int .i64 ky, .int .i64 sy, .int .i64 ny, .string keyy, .slice A15 py.length c15, .bool dy] from T23.out.get (i := 9) rfl)
    have q0 := K14.out.cell 0
    have q1 := K14.out.cell 1
    have q2 := K14.out.cell 2
    have q3 := K14.out.cell 3
    have q4 := K14.out.cell 4
    have q5 := K14.out.cell 5
    simp only [List.getElem?_toArray, List.getElem?_cons_zero, List.getElem?_cons_succ] at q0 q1 q2 q3 q4 q5
    go_wp2_with fail
    clear q0 q1 q2 q3 q4 q5 K14
    refine (spoil_any m3 (by rfl) (show BOwns w23 0 (.slice A15 py.length c15) py from T23.out.get (i := 11) rfl) (Nat.zero_le _) (by omega)).mono ?_
    rintro e w24 ⟨rfl, hk⟩
    have T24 := Lib.hid (T23.out.step (i := 11) rfl (Turn.toNone (hk.mono (fun i hi => .inl hi.symm))))
    clear T23
    clear hk
    clear hm3
    go_upto_region 26 with fail
    have TD := Lib.hid (show Turn _ _ _ w24.drew from T24.out.go (Below.refl _ _).drew)
    clear T24
    have Jit16 := (show Blk w24.drew g16 43 #[.string key3, .int .i64 s3, .slice A16 p3.length c16, .bool d3] from TD.out.get (i := 6) rfl)
    have it160 := Jit16.cell 0
    have it161 := Jit16.cell 1
    have it162 := Jit16.cell 2
    have it163 := Jit16.cell 3
    have Jit20 := (show Blk w24.drew g20 43 #[.string key3, .int .i64 s3, .slice A20 p3.length c20, .bool d3] from TD.out.get (i := 0) rfl)
    have it200 := Jit20.cell 0
    have it201 := Jit20.cell 1
    have it202 := Jit20.cell 2
    have it203 := Jit20.cell 3
    have Jit2 := (show Blk w24.drew g2 25 #[.int .i64 k, .int .i64 s, .int .i64 n, .string key, .slice A p.length c, .bool d] from TD.out.get (i := 18) rfl)
    have it20 := Jit2.cell 0
    have it21 := Jit2.cell 1
    have it22 := Jit2.cell 2
    have it23 := Jit2.cell 3
    have it24 := Jit2.cell 4
    have it25 := Jit2.cell 5
    have Jit19 := (show Blk w24.drew g19 25 #[.int .i64 ky, .int .i64 sy, .int .i64 ny, .string keyy, .slice A19 py.length c19, .bool dy] from TD.out.get (i := 3) rfl)
    have it190 := Jit19.cell 0
    have it191 := Jit19.cell 1
    have it192 := Jit19.cell 2
    have it193 := Jit19.cell 3
    have it194 := Jit19.cell 4
    have it195 := Jit19.cell 5
    simp only [List.getElem?_toArray, List.getElem?_cons_zero, List.getElem?_cons_succ] at it160 it161 it162 it163 it200 it201 it202 it203 it20 it21 it22 it23 it24 it25 it190 it191 it192 it193 it194 it195
    clear Jit16 Jit20 Jit2 Jit19
    go_region_held3 (fun w' => w'.cell? ⟨g16, 0, none⟩ = some (.string key3) ∧ w'.cell? ⟨g16, 1, none⟩ = some (.int .i64 s3) ∧ w'.cell? ⟨g16, 2, none⟩ = some (.slice A16 p3.length c16) ∧ w'.cell? ⟨g16, 3, none⟩ = some (.bool d3) ∧ w'.cell? ⟨g20, 0, none⟩ = some (.string key3) ∧ w'.cell? ⟨g20, 1, none⟩ = some (.int .i64 s3) ∧ w'.cell? ⟨g20, 2, none⟩ = some (.slice A20 p3.length c20) ∧ w'.cell? ⟨g20, 3, none⟩ = some (.bool d3) ∧ w'.cell? ⟨g2, 0, none⟩ = some (.int .i64 k) ∧ w'.cell? ⟨g2, 1, none⟩ = some (.int .i64 s) ∧ w'.cell? ⟨g2, 2, none⟩ = some (.int .i64 n) ∧ w'.cell? ⟨g2, 3, none⟩ = some (.string key) ∧ w'.cell? ⟨g2, 4, none⟩ = some (.slice A p.length c) ∧ w'.cell? ⟨g2, 5, none⟩ = some (.bool d) ∧ w'.cell? ⟨g19, 0, none⟩ = some (.int .i64 ky) ∧ w'.cell? ⟨g19, 1, none⟩ = some (.int .i64 sy) ∧ w'.cell? ⟨g19, 2, none⟩ = some (.int .i64 ny) ∧ w'.cell? ⟨g19, 3, none⟩ = some (.string keyy) ∧ w'.cell? ⟨g19, 4, none⟩ = some (.slice A19 py.length c19) ∧ w'.cell? ⟨g19, 5, none⟩ = some (.bool dy)) (first | (with_reducible exact ⟨it160, it161, it162, it163, it200, it201, it202, it203, it20, it21, it22, it23, it24, it25, it190, it191, it192, it193, it194, it195⟩) | (with_reducible exact ⟨at160, at161, at162, at163, at200, at201, at202, at203, at20, at21, at22, at23, at24, at25, at190, at191, at192, at193, at194, at195⟩) | (with_reducible exact ⟨bt160, bt161, bt162, bt163, bt200, bt201, bt202, bt203, bt20, bt21, bt22, bt23, bt24, bt25, bt190, bt191, bt192, bt193, bt194, bt195⟩) | (with_reducible exact ⟨ct160, ct161, ct162, ct163, ct200, ct201, ct202, ct203, ct20, ct21, ct22, ct23, ct24, ct25, ct190, ct191, ct192, ct193, ct194, ct195⟩) | go_keep) (first | (go_at_call 31; (fail_if_success clear TA); refine (sameVersion_any (A := A16) (A' := A20) (c := c16) (c' := c20) ⟨key3, s3, p3, d3⟩ (BOwns.reads (TD.out.get (i := 7) rfl)) (BOwns.reads (TD.out.get (i := 1) rfl))).mono ?_; rintro e wA ⟨rfl, hb⟩; have TA := Lib.hid (TD.out.go hb); have Jat16 := (show Blk wA g16 43 #[.string key3, .int .i64 s3, .slice A16 p3.length c16, .bool d3] from TA.out.get (i := 6) rfl); have at160 := Jat16.cell 0; have at161 := Jat16.cell 1; have at162 := Jat16.cell 2; have at163 := Jat16.cell 3; have Jat20 := (show Blk wA g20 43 #[.string key3, .int .i64 s3, .slice A20 p3.length c20, .bool d3] from TA.out.get (i := 0) rfl); have at200 := Jat20.cell 0; have at201 := Jat20.cell 1; have at202 := Jat20.cell 2; have at203 := Jat20.cell 3; have Jat2 := (show Blk wA g2 25 #[.int .i64 k, .int .i64 s, .int .i64 n, .string key, .slice A p.length c, .bool d] from TA.out.get (i := 18) rfl); have at20 := Jat2.cell 0; have at21 := Jat2.cell 1; have at22 := Jat2.cell 2; have at23 := Jat2.cell 3; have at24 := Jat2.cell 4; have at25 := Jat2.cell 5; have Jat19 := (show Blk wA g19 25 #[.int .i64 ky, .int .i64 sy, .int .i64 ny, .string keyy, .slice A19 py.length c19, .bool dy] from TA.out.get (i := 3) rfl); have at190 := Jat19.cell 0; have at191 := Jat19.cell 1; have at192 := Jat19.cell 2; have at193 := Jat19.cell 3; have at194 := Jat19.cell 4; have at195 := Jat19.cell 5; simp only [List.getElem?_toArray, List.getElem?_cons_zero, List.getElem?_cons_succ] at at160 at161 at162 at163 at200 at201 at202 at203 at20 at21 at22 at23 at24 at25 at190 at191 at192 at193 at194 at195; clear Jat16 Jat20 Jat2 Jat19; clear hb) | (go_at_call 29; (fail_if_success clear TB); refine (ofVersion_any (A := A) (c := c) ⟨key, s, p, d⟩ ((HR.out.below TA.out.free).more TA.out.free.size) (by simp only; omega)).mono ?_; rintro e wB h; rw [← HY.out] at h; obtain ⟨AB, cB, he, ho, hb⟩ := h; obtain rfl : e = .returned (.agg #[.int .i64 ky, .int .i64 sy, .int .i64 ny, .string keyy, .slice AB py.length cB, .bool dy]) := he; have TB := Lib.hid (TA.out.more (y := Item.row (.slice AB py.length cB) py) hb (owns_less ho (Nat.zero_le _)) (fun k hk => (ho.lt hk).1)); have Jbt16 := (show Blk wB g16 43 #[.string key3, .int .i64 s3, .slice A16 p3.length c16, .bool d3] from TB.out.get (i := 7) rfl); have bt160 := Jbt16.cell 0; have bt161 := Jbt16.cell 1; have bt162 := Jbt16.cell 2; have bt163 := Jbt16.cell 3; have Jbt20 := (show Blk wB g20 43 #[.string key3, .int .i64 s3, .slice A20 p3.length c20, .bool d3] from TB.out.get (i := 1) rfl); have bt200 := Jbt20.cell 0; have bt201 := Jbt20.cell 1; have bt202 := Jbt20.cell 2; have bt203 := Jbt20.cell 3; have Jbt2 := (show Blk wB g2 25 #[.int .i64 k, .int .i64 s, .int .i64 n, .string key, .slice A p.length c, .bool d] from TB.out.get (i := 19) rfl); have bt20 := Jbt2.cell 0; have bt21 := Jbt2.cell 1; have bt22 := Jbt2.cell 2; have bt23 := Jbt2.cell 3; have bt24 := Jbt2.cell 4; have bt25 := Jbt2.cell 5; have Jbt19 := (show Blk wB g19 25 #[.int .i64 ky, .int .i64 sy, .int .i64 ny, .string keyy, .slice A19 py.length c19, .bool dy] from TB.out.get (i := 4) rfl); have bt190 := Jbt19.cell 0; have bt191 := Jbt19.cell 1; have bt192 := Jbt19.cell 2; have bt193 := Jbt19.cell 3; have bt194 := Jbt19.cell 4; have bt195 := Jbt19.cell 5; simp only [List.getElem?_toArray, List.getElem?_cons_zero, List.getElem?_cons_succ] at bt160 bt161 bt162 bt163 bt200 bt201 bt202 bt203 bt20 bt21 bt22 bt23 bt24 bt25 bt190 bt191 bt192 bt193 bt194 bt195; clear Jbt16 Jbt20 Jbt2 Jbt19; clear hb ho) | (go_at_call 24; (fail_if_success clear TC); refine (same_any (A := AB) (A' := A19) (c := cB) (c' := c19) ⟨ky, sy, ny, keyy, py, dy⟩ (BOwns.reads (TB.out.get (i := 0) rfl)) (BOwns.reads (TB.out.get (i := 6) rfl))).mono ?_; rintro e wC ⟨rfl, hb⟩; have TC := Lib.hid (TB.out.go hb); have Jct16 := (show Blk wC g16 43 #[.string key3, .int .i64 s3, .slice A16 p3.length c16, .bool d3] from TC.out.get (i := 7) rfl); have ct160 := Jct16.cell 0; have ct161 := Jct16.cell 1; have ct162 := Jct16.cell 2; have ct163 := Jct16.cell 3; have Jct20 := (show Blk wC g20 43 #[.string key3, .int .i64 s3, .slice A20 p3.length c20, .bool d3] from TC.out.get (i := 1) rfl); have ct200 := Jct20.cell 0; have ct201 := Jct20.cell 1; have ct202 := Jct20.cell 2; have ct203 := Jct20.cell 3; have Jct2 := (show Blk wC g2 25 #[.int .i64 k, .int .i64 s, .int .i64 n, .string key, .slice A p.length c, .bool d] from TC.out.get (i := 19) rfl); have ct20 := Jct2.cell 0; have ct21 := Jct2.cell 1; have ct22 := Jct2.cell 2; have ct23 := Jct2.cell 3; have ct24 := Jct2.cell 4; have ct25 := Jct2.cell 5; have Jct19 := (show Blk wC g19 25 #[.int .i64 ky, .int .i64 sy, .int .i64 ny, .string keyy, .slice A19 py.length c19, .bool dy] from TC.out.get (i := 4) rfl); have ct190 := Jct19.cell 0; have ct191 := Jct19.cell 1; have ct192 := Jct19.cell 2; have ct193 := Jct19.cell 3; have ct194 := Jct19.cell 4; have ct195 := Jct19.cell 5; simp only [List.getElem?_toArray, List.getElem?_cons_zero, List.getElem?_cons_succ] at ct160 ct161 ct162 ct163 ct200 ct201 ct202 ct203 ct20 ct21 ct22 ct23 ct24 ct25 ct190 ct191 ct192 ct193 ct194 ct195; clear Jct16 Jct20 Jct2 Jct19; clear hb))
    clear it160 it161 it162 it163 it200 it201 it202 it203 it20 it21 it22 it23 it24 it25 it190 it191 it192 it193 it194 it195 at160 at161 at162 at163 at200 at201 at202 at203 at20 at21 at22 at23 at24 at25 at190 at191 at192 at193 at194 at195 bt160 bt161 bt162 bt163 bt200 bt201 bt202 bt203 bt20 bt21 bt22 bt23 bt24 bt25 bt190 bt191 bt192 bt193 bt194 bt195 ct160 ct161 ct162 ct163 ct200 ct201 ct202 ct203 ct20 ct21 ct22 ct23 ct24 ct25 ct190 ct191 ct192 ct193 ct194 ct195
    obtain ⟨w25, hw25⟩ : ∃ x, x = wC := ⟨_, rfl⟩
    rw [← hw25] at TC ⊢
    have T25 := TC
    clear hw25 TC
    go_wp2_with fail
    refine (withRoom_any (c := c5) (BOwns.reads (T25.out.get (i := 18) rfl)) (by omega)).mono ?_
    rintro e w26 h
    obtain ⟨A23, c23, rfl, ho, hc23, hb⟩ := givesB_own h
    obtain ⟨rowL, hrow⟩ : ∃ x, x = want ++ gaps 70 := ⟨_, rfl⟩
    rw [← hrow] at ho hc23 ⊢
    have HROW := Lib.hid hrow
    have hrl1 : want.length + 70 ≤ rowL.length := by rw [hrow, List.length_append, gaps_length]; omega
    have hrl2 : rowL.length ≤ want.length + 70 := by rw [hrow, List.length_append, gaps_length]; omega
    obtain ⟨g23, rfl, _, _, _, _⟩ := BOwns.block ho (by omega)
    clear h hrow
    have T26 := Lib.hid (T25.out.more (y := Item.row (.slice (some ⟨g23, 0, none⟩) rowL.length c23) rowL) hb (owns_less ho (Nat.zero_le _)) (fun k hk => (ho.lt hk).1))
    clear hb ho T25
    have hw23 : want.length ≤ c23 := by omega
    have hw23' : (want.length : Int) ≤ (c23 : Int) := by omega
    have hwr : want.length ≤ rowL.length := by omega
    obtain ⟨⟨⟨kd, sd, nd, keyd, pd, dd⟩, fd⟩, hd⟩ : ∃ x, x = decF want := ⟨_, rfl⟩
    have hpd : pd.length ≤ 5000 := by have h1 := decF_len want; rw [← hd] at h1; exact h1
    have HD := Lib.hid hd
    clear hd
    go_wp2_with fail
    refine (decode_any (c := c23) (b := want) (reads_front (m := gaps 70) (by rw [← HROW.out]; exact (BOwns.reads (T26.out.get (i := 0) rfl)))) (by omega)).mono ?_
    rintro e w27 h
    obtain ⟨A24, c24, he, ho, hb⟩ := dec_both h
    rw [← HD.out] at he ho
    obtain rfl : e = .returned (.tuple #[.agg #[.int .i64 kd, .int .i64 sd, .int .i64 nd, .string keyd, .slice A24 pd.length c24, .bool dd], .int .i64 fd]) := he
    clear h
    have T27 := Lib.hid (T26.out.more (y := Item.row (.slice A24 pd.length c24) pd) hb.out (owns_less ho.out (Nat.zero_le _)) (fun k hk => (ho.out.lt hk).1))
    clear hb ho T26
    go_upto_region 30 with fail
    obtain ⟨w28, hw28⟩ : ∃ x, x = w27.alloc (.cells #[.int .i64 kd, .int .i64 sd, .int .i64 nd, .string keyd, .slice A24 pd.length c24, .bool dd] 25) := ⟨_, rfl⟩
    obtain ⟨g24, hg24⟩ : ∃ x, x = w27.heap.size := ⟨_, rfl⟩
    have T28 := Lib.hid (show Turn _ _ _ w28 from by rw [hw28]; exact T27.out.more (y := Item.blk g24 25 #[.int .i64 kd, .int .i64 sd, .int .i64 nd, .string keyd, .slice A24 pd.length c24, .bool dd]) ((Below.refl _ _).alloc (Nat.le_refl _) _) (by rw [hg24]; exact Blk.new _ _ _) (fun k hk => by cases hk; rw [hg24]; exact Nat.le_refl _))
    rw [← hw28, ← hg24]
    clear hw28 hg24 T27
    go_wp2_with fail
    refine (decode_any (c := c23) (b := want) (reads_front (m := gaps 70) (by rw [← HROW.out]; exact (BOwns.reads (T28.out.get (i := 2) rfl)))) (by omega)).mono ?_
    rintro e w29 h
    obtain ⟨A26, c26, he, ho, hb⟩ := dec_both h
    rw [← HD.out] at he ho
    obtain rfl : e = .returned (.tuple #[.agg #[.int .i64 kd, .int .i64 sd, .int .i64 nd, .string keyd, .slice A26 pd.length c26, .bool dd], .int .i64 fd]) := he
    clear h
    have T29 := Lib.hid (T28.out.more (y := Item.row (.slice A26 pd.length c26) pd) hb.out (owns_less ho.out (Nat.zero_le _)) (fun k hk => (ho.out.lt hk).1))
    clear hb ho T28
    go_upto_region 31 with fail
    obtain ⟨w30, hw30⟩ : ∃ x, x = w29.alloc (.cells #[.int .i64 kd, .int .i64 sd, .int .i64 nd, .string keyd, .slice A26 pd.length c26, .bool dd] 25) := ⟨_, rfl⟩
    obtain ⟨g26, hg26⟩ : ∃ x, x = w29.heap.size := ⟨_, rfl⟩
    have T30 := Lib.hid (show Turn _ _ _ w30 from by rw [hw30]; exact T29.out.more (y := Item.blk g26 25 #[.int .i64 kd, .int .i64 sd, .int .i64 nd, .string keyd, .slice A26 pd.length c26, .bool dd]) ((Below.refl _ _).alloc (Nat.le_refl _) _) (by rw [hg26]; exact Blk.new _ _ _) (fun k hk => by cases hk; rw [hg26]; exact Nat.le_refl _))
    rw [← hw30, ← hg26]
    clear hw30 hg26 T29
    go_wp2_with fail
    refine (stays_any (BOwns.reads (T30.out.get (i := 4) rfl)) (BOwns.reads (T30.out.get (i := 23) rfl)) (by omega) HROW.out).mono ?_
    rintro e w31 ⟨rfl, hb⟩
    have T31 := Lib.hid (T30.out.go hb)
    clear hb T30
    go_wp2_with fail
    refine (rdecode_any (c := c5) (BOwns.reads (T31.out.get (i := 23) rfl)) (by omega) hc5).mono ?_
    rintro e w32 h
    obtain ⟨A28, c28, he, ho, hb⟩ := dec_both h
    rw [← HD.out] at he ho
    obtain rfl : e = .returned (.tuple #[.agg #[.int .i64 kd, .int .i64 sd, .int .i64 nd, .string keyd, .slice A28 pd.length c28, .bool dd], .int .i64 fd]) := he
    clear h
    have T32 := Lib.hid (T31.out.more (y := Item.row (.slice A28 pd.length c28) pd) hb.out (owns_less ho.out (Nat.zero_le _)) (fun k hk => (ho.out.lt hk).1))
    clear hb ho T31
    go_upto_region 34 with fail
    obtain ⟨w33, hw33⟩ : ∃ x, x = w32.alloc (.cells #[.int .i64 kd, .int .i64 sd, .int .i64 nd, .string keyd, .slice A28 pd.length c28, .bool dd] 25) := ⟨_, rfl⟩
    obtain ⟨g28, hg28⟩ : ∃ x, x = w32.heap.size := ⟨_, rfl⟩
    have T33 := Lib.hid (show Turn _ _ _ w33 from by rw [hw33]; exact T32.out.more (y := Item.blk g28 25 #[.int .i64 kd, .int .i64 sd, .int .i64 nd, .string keyd, .slice A28 pd.length c28, .bool dd]) ((Below.refl _ _).alloc (Nat.le_refl _) _) (by rw [hg28]; exact Blk.new _ _ _) (fun k hk => by cases hk; rw [hg28]; exact Nat.le_refl _))
    rw [← hw33, ← hg28]
    clear hw33 hg28 T32
    obtain ⟨m4, hm4'⟩ : ∃ y : UInt8, ((later.toNat : Int) + 4) % 256 = (y.toNat : Int) := ⟨UInt8.ofNat ((later.toNat + 4) % 256), by rw [u8_int _ (by omega)]; omega⟩
    have hm4 : IntKind.u8.wrap ((later.toNat : Int) + 4) = (m4.toNat : Int) := by rw [IntKind.wrap_u8]; exact hm4'
    clear hm4'
    have K24 := Lib.hid (show Blk w33 g24 25 #[.int .i64 kd, .int .i64 sd, .int .i64 nd, .string keyd, .slice A24 pd.length c24, .bool dd] from T33.out.get (i := 4) rfl)
    have q0 := K24.out.cell 0
    have q1 := K24.out.cell 1
    have q2 := K24.out.cell 2
    have q3 := K24.out.cell 3
    have q4 := K24.out.cell 4
    have q5 := K24.out.cell 5
    simp only [List.getElem?_toArray, List.getElem?_cons_zero, List.getElem?_cons_succ] at q0 q1 q2 q3 q4 q5
    go_wp2_with fail
    clear q0 q1 q2 q3 q4 q5 K24
    refine (spoil_any m4 (by rfl) (show BOwns w33 0 (.slice A24 pd.length c24) pd from T33.out.get (i := 5) rfl) (Nat.zero_le _) (by omega)).mono ?_
    rintro e w34 ⟨rfl, hk⟩
    have T34 := Lib.hid (T33.out.step (i := 5) rfl (Turn.toNone (hk.mono (fun i hi => .inl hi.symm))))
    clear T33
    clear hk
    clear hm4
    go_wp2
    have HFO := Lib.hid (show BOwns w34 0 (.slice (some ⟨g23, 0, none⟩) rowL.length c23) rowL from T34.out.get (i := 6) rfl)
    go_loopw [30] (fun i wr => ∃ I : Nat, i = .int .i64 I ∧ I ≤ rowL.length ∧ Hid (BOwns wr 0 (.slice (some ⟨g23, 0, none⟩) rowL.length c23) (fillL later I rowL)) ∧ Hid (Keeps (fun k => some k = (Value.slice (some ⟨g23, 0, none⟩) rowL.length c23).ownBlock) w34 wr)) (fun i _ => rowL.length - (intOf i).toNat)
    case atStart => exact ⟨0, rfl, by omega, HFO, Lib.hid (Keeps.refl _ _)⟩
    case round =>
      obtain ⟨I, rfl, hI, hO, hKL⟩ := hrel
      by_cases hlt : (I : Int) < rowL.length
      · obtain ⟨gx, ux, hAx, f1, c1, HO, HK⟩ := fill_step (m := (later.toNat : Int)) hO.out (by omega) rfl hKL.out
        obtain rfl : g23 = gx := by injection hAx with e; injection e
        clear hO hKL
        go_wp2
        exact ⟨⟨I + 1, by go_num, by omega, HO, HK⟩, by simp [intOf]; omega⟩
      obtain ⟨w35, hw35⟩ : ∃ x, x = wr := ⟨_, rfl⟩
      rw [← hw35] at hO hKL ⊢
      have T35 := Lib.hid (T34.out.step (i := 6) rfl (Turn.toNone (hKL.out.mono (fun i hi => .inl hi.symm))))
      clear T34
      clear hw35 hO hKL HFO
      have K26 := Lib.hid (show Blk w35 g26 25 #[.int .i64 kd, .int .i64 sd, .int .i64 nd, .string keyd, .slice A26 pd.length c26, .bool dd] from T35.out.get (i := 2) rfl)
      have q0 := K26.out.cell 0
      have q1 := K26.out.cell 1
      have q2 := K26.out.cell 2
      have q3 := K26.out.cell 3
      have q4 := K26.out.cell 4
      have q5 := K26.out.cell 5
      simp only [List.getElem?_toArray, List.getElem?_cons_zero, List.getElem?_cons_succ] at q0 q1 q2 q3 q4 q5
      have K28 := Lib.hid (show Blk w35 g28 25 #[.int .i64 kd, .int .i64 sd, .int .i64 nd, .string keyd, .slice A28 pd.length c28, .bool dd] from T35.out.get (i := 0) rfl)
      have z0 := K28.out.cell 0
      have z1 := K28.out.cell 1
      have z2 := K28.out.cell 2
      have z3 := K28.out.cell 3
      have z4 := K28.out.cell 4
      have z5 := K28.out.cell 5
      simp only [List.getElem?_toArray, List.getElem?_cons_zero, List.getElem?_cons_succ] at z0 z1 z2 z3 z4 z5
      go_wp2_with fail
      clear q0 q1 q2 q3 q4 q5 K26 z0 z1 z2 z3 z4 z5 K28
      refine (same_any (A := A26) (A' := A28) (c := c26) (c' := c28) ⟨kd, sd, nd, keyd, pd, dd⟩ (BOwns.reads (T35.out.get (i := 3) rfl)) (BOwns.reads (T35.out.get (i := 1) rfl))).mono ?_
      rintro e w36 ⟨rfl, hb⟩
      have T36 := Lib.hid (T35.out.go hb)
      clear hb T35
      go_wp2
      go_ret
      exact ⟨rfl, T36.out.free⟩
theorem entryKeeps_walk {w : World} {A : Option Addr} {c : Nat} (x : En) (hr : BReads w w.heap.size A x.value) (m : Int) (h1 : IntKind.min .u8 ≤ m) (h2 : m ≤ IntKind.max .u8) (hbulk : x.key.size + x.value.length ≤ 1048576) :
    Calls Try.prog 9 #[.agg (x.cells A c), .int .u8 m] w (True_ w) := by
  have h3 : 0 ≤ m := h1
  have h4 : m ≤ 255 := h2
  obtain ⟨y, hy⟩ : ∃ y : UInt8, m = (y.toNat : Int) := ⟨UInt8.ofNat m.toNat, by rw [u8_int _ (by omega)]; omega⟩
  subst hy
  exact entryKeeps_walk0 x hr y hbulk
end Go.Proofs.Ytnnladfndmdapaa
