/- wantLaid, by contract (printed by a program of this claim's own). -/
import Derived.Test.YtoeccclaaogihaaThing
import Derived.Test.YtoeccclaaogihaaRef1
import Derived.Test.YtoeccclaaogihaaRefPut
import Derived.Test.YtoeccclaaogihaaRooms
namespace Go.Proofs.Ytoeccclaaogihaa
open Go.RowKit

theorem beN_mod' (k : Nat) : ∀ (v m : Nat), k ≤ m → beN k (v % 256 ^ m) = beN k v := by
  induction k with
  | zero => intros; rfl
  | succ k ih =>
    intro v m hm
    have h : v % 256 ^ m / 256 ^ k % 256 = v / 256 ^ k % 256 := by
      obtain ⟨d, rfl⟩ : ∃ d, m = k + (d + 1) := ⟨m - k - 1, by omega⟩
      rw [Nat.pow_add, Nat.mod_mul_right_div_self, Nat.pow_succ, Nat.mul_comm (256 ^ d), Nat.mod_mul_right_mod]
    rw [beN, beN, h, ih v m (by omega)]
set_option maxRecDepth 100000 in
theorem wantLaid_any {w : World} {c c' : Nat} {A A' : Option Addr} {l : List UInt8} (t : Th) (hok : t.ok) (hr : BReads w w.heap.size A l) (hp : BReads w w.heap.size A' t.p) (hl : l.length + t.p.length ≤ 100000000) :
    Calls Try.prog 32 #[.slice A l.length c, .agg (t.cells A' c')] w (GivesB w (l ++ t.bytes)) := by
  obtain ⟨kind, v, n, p⟩ := t
  unfold Th.cells
  simp only at hp hl ⊢
  obtain ⟨q, rfl⟩ := Int.eq_ofNat_of_zero_le hok.v0
  have XQ := Lib.hid (show q < 18446744073709551616 from by have := (show (q : Int) < 18446744073709551616 from hok.v1); omega)
  have H0 := Lib.hid hok.n0
  have H1 := Lib.hid hok.n1
  clear hok
  by_cases hk0 : kind = 0
  · subst hk0
    have HE := Lib.hid (show Th.bytes ⟨0, (q : Int), n, p⟩ = beN 1 q from by
      show beN 1 ((q : Int).toNat % 256) = _
      rw [Int.toNat_natCast]; exact beN_mod' 1 q 1 (Nat.le_refl _))
    have BA := Lib.hid ((Below.refl w.heap.size w).alloc (Nat.le_refl _) (.cells #[.int .i64 0, .int .u64 (q : Int), .int .i64 n, .slice A' p.length c'] 42))
    have HR := Lib.hid ((hr.below BA.out).more BA.out.size)
    have HP := Lib.hid ((hp.below BA.out).more BA.out.size)
    have KN := Lib.hid (Blk.new w 42 #[.int .i64 0, .int .u64 (q : Int), .int .i64 n, .slice A' p.length c'])
    clear hr hp
    go_enter Try.func32, Try.ntmps32
    go_wp2_with fail
    obtain ⟨W, hW⟩ : ∃ x, x = w.alloc (.cells #[.int .i64 0, .int .u64 (q : Int), .int .i64 n, .slice A' p.length c'] 42) := ⟨_, rfl⟩
    obtain ⟨s, hs⟩ : ∃ s, s = w.heap.size := ⟨_, rfl⟩
    rw [← hW] at KN HR HP BA ⊢
    rw [← hs] at KN ⊢
    clear hW hs
    have c0 := KN.out.cell 0
    have c1 := KN.out.cell 1
    simp at c0 c1
    go_region_held3 (fun w' => w'.cell? ⟨s, 0, none⟩ = some (.int .i64 0) ∧ w'.cell? ⟨s, 1, none⟩ = some (.int .u64 (q : Int))) (first | exact ⟨c0, c1⟩ | exact ⟨x0, x1⟩) ((go_at_call 26; refine (refPut_any q 1 (w := W.drew) HR.out XQ.out (by omega) (by omega)).mono ?_; rintro e w1 h; obtain ⟨v', rfl, ho, hb⟩ := h.out; have HO := Lib.hid ho; have HB := Lib.hid (show Below W.heap.size W w1 from ⟨hb.os, hb.tape, hb.output, hb.size, hb.block⟩); have x0 := (KN.out.below HB.out KN.out.lt).cell 0; have x1 := (KN.out.below HB.out KN.out.lt).cell 1; simp at x0 x1; clear ho hb h))
    go_wp2
    go_ret
    exact ⟨v', rfl, by rw [HE.out]; exact owns_less HO.out BA.out.size, BA.out.trans (HB.out.mono BA.out.size)⟩
  by_cases hk1 : kind = 1
  · subst hk1
    have HE := Lib.hid (show Th.bytes ⟨1, (q : Int), n, p⟩ = beN 2 q from by
      show beN 2 ((q : Int).toNat % 65536) = _
      rw [Int.toNat_natCast]; exact beN_mod' 2 q 2 (Nat.le_refl _))
    have BA := Lib.hid ((Below.refl w.heap.size w).alloc (Nat.le_refl _) (.cells #[.int .i64 1, .int .u64 (q : Int), .int .i64 n, .slice A' p.length c'] 42))
    have HR := Lib.hid ((hr.below BA.out).more BA.out.size)
    have HP := Lib.hid ((hp.below BA.out).more BA.out.size)
    have KN := Lib.hid (Blk.new w 42 #[.int .i64 1, .int .u64 (q : Int), .int .i64 n, .slice A' p.length c'])
    clear hr hp
    go_enter Try.func32, Try.ntmps32
    go_wp2_with fail
    obtain ⟨W, hW⟩ : ∃ x, x = w.alloc (.cells #[.int .i64 1, .int .u64 (q : Int), .int .i64 n, .slice A' p.length c'] 42) := ⟨_, rfl⟩
    obtain ⟨s, hs⟩ : ∃ s, s = w.heap.size := ⟨_, rfl⟩
    rw [← hW] at KN HR HP BA ⊢
    rw [← hs] at KN ⊢
    clear hW hs
    have c0 := KN.out.cell 0
    have c1 := KN.out.cell 1
    simp at c0 c1
    go_region_held3 (fun w' => w'.cell? ⟨s, 0, none⟩ = some (.int .i64 1) ∧ w'.cell? ⟨s, 1, none⟩ = some (.int .u64 (q : Int))) (first | exact ⟨c0, c1⟩ | exact ⟨x0, x1⟩) ((go_at_call 26; refine (refPut_any q 2 (w := W.drew) HR.out XQ.out (by omega) (by omega)).mono ?_; rintro e w1 h; obtain ⟨v', rfl, ho, hb⟩ := h.out; have HO := Lib.hid ho; have HB := Lib.hid (show Below W.heap.size W w1 from ⟨hb.os, hb.tape, hb.output, hb.size, hb.block⟩); have x0 := (KN.out.below HB.out KN.out.lt).cell 0; have x1 := (KN.out.below HB.out KN.out.lt).cell 1; simp at x0 x1; clear ho hb h))
    go_wp2
    go_ret
    exact ⟨v', rfl, by rw [HE.out]; exact owns_less HO.out BA.out.size, BA.out.trans (HB.out.mono BA.out.size)⟩
  by_cases hk2 : kind = 2
  · subst hk2
    have HE := Lib.hid (show Th.bytes ⟨2, (q : Int), n, p⟩ = beN 4 q from by
      show beN 4 ((q : Int).toNat % 4294967296) = _
      rw [Int.toNat_natCast]; exact beN_mod' 4 q 4 (Nat.le_refl _))
    have BA := Lib.hid ((Below.refl w.heap.size w).alloc (Nat.le_refl _) (.cells #[.int .i64 2, .int .u64 (q : Int), .int .i64 n, .slice A' p.length c'] 42))
    have HR := Lib.hid ((hr.below BA.out).more BA.out.size)
    have HP := Lib.hid ((hp.below BA.out).more BA.out.size)
    have KN := Lib.hid (Blk.new w 42 #[.int .i64 2, .int .u64 (q : Int), .int .i64 n, .slice A' p.length c'])
    clear hr hp
    go_enter Try.func32, Try.ntmps32
    go_wp2_with fail
    obtain ⟨W, hW⟩ : ∃ x, x = w.alloc (.cells #[.int .i64 2, .int .u64 (q : Int), .int .i64 n, .slice A' p.length c'] 42) := ⟨_, rfl⟩
    obtain ⟨s, hs⟩ : ∃ s, s = w.heap.size := ⟨_, rfl⟩
    rw [← hW] at KN HR HP BA ⊢
    rw [← hs] at KN ⊢
    clear hW hs
    have c0 := KN.out.cell 0
    have c1 := KN.out.cell 1
    simp at c0 c1
    go_region_held3 (fun w' => w'.cell? ⟨s, 0, none⟩ = some (.int .i64 2) ∧ w'.cell? ⟨s, 1, none⟩ = some (.int .u64 (q : Int))) (first | exact ⟨c0, c1⟩ | exact ⟨x0, x1⟩) ((go_at_call 26; refine (refPut_any q 4 (w := W.drew) HR.out XQ.out (by omega) (by omega)).mono ?_; rintro e w1 h; obtain ⟨v', rfl, ho, hb⟩ := h.out; have HO := Lib.hid ho; have HB := Lib.hid (show Below W.heap.size W w1 from ⟨hb.os, hb.tape, hb.output, hb.size, hb.block⟩); have x0 := (KN.out.below HB.out KN.out.lt).cell 0; have x1 := (KN.out.below HB.out KN.out.lt).cell 1; simp at x0 x1; clear ho hb h))
    go_wp2
    go_ret
    exact ⟨v', rfl, by rw [HE.out]; exact owns_less HO.out BA.out.size, BA.out.trans (HB.out.mono BA.out.size)⟩
  by_cases hk3 : kind = 3
  · subst hk3
    have HE := Lib.hid (show Th.bytes ⟨3, (q : Int), n, p⟩ = beN 8 q from by
      show beN 8 ((q : Int).toNat) = _
      rw [Int.toNat_natCast])
    have BA := Lib.hid ((Below.refl w.heap.size w).alloc (Nat.le_refl _) (.cells #[.int .i64 3, .int .u64 (q : Int), .int .i64 n, .slice A' p.length c'] 42))
    have HR := Lib.hid ((hr.below BA.out).more BA.out.size)
    have HP := Lib.hid ((hp.below BA.out).more BA.out.size)
    have KN := Lib.hid (Blk.new w 42 #[.int .i64 3, .int .u64 (q : Int), .int .i64 n, .slice A' p.length c'])
    clear hr hp
    go_enter Try.func32, Try.ntmps32
    go_wp2_with fail
    obtain ⟨W, hW⟩ : ∃ x, x = w.alloc (.cells #[.int .i64 3, .int .u64 (q : Int), .int .i64 n, .slice A' p.length c'] 42) := ⟨_, rfl⟩
    obtain ⟨s, hs⟩ : ∃ s, s = w.heap.size := ⟨_, rfl⟩
    rw [← hW] at KN HR HP BA ⊢
    rw [← hs] at KN ⊢
    clear hW hs
    have c0 := KN.out.cell 0
    have c1 := KN.out.cell 1
    simp at c0 c1
    go_region_held3 (fun w' => w'.cell? ⟨s, 0, none⟩ = some (.int .i64 3) ∧ w'.cell? ⟨s, 1, none⟩ = some (.int .u64 (q : Int))) (first | exact ⟨c0, c1⟩ | exact ⟨x0, x1⟩) ((go_at_call 26; refine (refPut_any q 8 (w := W.drew) HR.out XQ.out (by omega) (by omega)).mono ?_; rintro e w1 h; obtain ⟨v', rfl, ho, hb⟩ := h.out; have HO := Lib.hid ho; have HB := Lib.hid (show Below W.heap.size W w1 from ⟨hb.os, hb.tape, hb.output, hb.size, hb.block⟩); have x0 := (KN.out.below HB.out KN.out.lt).cell 0; have x1 := (KN.out.below HB.out KN.out.lt).cell 1; simp at x0 x1; clear ho hb h))
    go_wp2
    go_ret
    exact ⟨v', rfl, by rw [HE.out]; exact owns_less HO.out BA.out.size, BA.out.trans (HB.out.mono BA.out.size)⟩
  by_cases hk4 : kind = 4
  · have k0 : (kind == 0) = false := by simp; omega
    have k1 : (kind == 1) = false := by simp; omega
    have k2 : (kind == 2) = false := by simp; omega
    have k3 : (kind == 3) = false := by simp; omega
    have k4 : (kind == 4) = true := by simp; omega
    have HE := Lib.hid (show Th.bytes ⟨kind, (q : Int), n, p⟩ = intF n from by unfold Th.bytes; simp only; rw [if_neg (show ¬ kind = 0 from hk0), if_neg (show ¬ kind = 1 from hk1), if_neg (show ¬ kind = 2 from hk2), if_neg (show ¬ kind = 3 from hk3), if_pos (show kind = 4 from hk4)])
    clear hk0 hk1 hk2 hk3 hk4
    have BA := Lib.hid ((Below.refl w.heap.size w).alloc (Nat.le_refl _) (.cells #[.int .i64 kind, .int .u64 (q : Int), .int .i64 n, .slice A' p.length c'] 42))
    have HR := Lib.hid ((hr.below BA.out).more BA.out.size)
    have HP := Lib.hid ((hp.below BA.out).more BA.out.size)
    have KN := Lib.hid (Blk.new w 42 #[.int .i64 kind, .int .u64 (q : Int), .int .i64 n, .slice A' p.length c'])
    clear hr hp
    go_enter Try.func32, Try.ntmps32
    go_wp2_with fail
    obtain ⟨W, hW⟩ : ∃ x, x = w.alloc (.cells #[.int .i64 kind, .int .u64 (q : Int), .int .i64 n, .slice A' p.length c'] 42) := ⟨_, rfl⟩
    obtain ⟨s, hs⟩ : ∃ s, s = w.heap.size := ⟨_, rfl⟩
    rw [← hW] at KN HR HP BA ⊢
    rw [← hs] at KN ⊢
    clear hW hs
    refine (refPutInt_any n HR.out (Nat.le_refl _) H0.out H1.out (by omega)).mono ?_
    rintro e w1 h
    obtain ⟨v', rfl, ho, hb⟩ := h.out
    have HO := Lib.hid ho
    have HB := Lib.hid hb
    clear ho hb h
    go_wp2
    go_ret
    exact ⟨v', rfl, by rw [HE.out]; exact owns_less HO.out BA.out.size, BA.out.trans (HB.out.mono BA.out.size)⟩
  have k0 : (kind == 0) = false := by simp; omega
  have k1 : (kind == 1) = false := by simp; omega
  have k2 : (kind == 2) = false := by simp; omega
  have k3 : (kind == 3) = false := by simp; omega
  have k4 : (kind == 4) = false := by simp; omega
  have HE := Lib.hid (show Th.bytes ⟨kind, (q : Int), n, p⟩ = intF p.length ++ p from by unfold Th.bytes; simp only; rw [if_neg (show ¬ kind = 0 from hk0), if_neg (show ¬ kind = 1 from hk1), if_neg (show ¬ kind = 2 from hk2), if_neg (show ¬ kind = 3 from hk3), if_neg (show ¬ kind = 4 from hk4)]; split <;> rfl)
  clear hk0 hk1 hk2 hk3 hk4
  have BA := Lib.hid ((Below.refl w.heap.size w).alloc (Nat.le_refl _) (.cells #[.int .i64 kind, .int .u64 (q : Int), .int .i64 n, .slice A' p.length c'] 42))
  have HR := Lib.hid ((hr.below BA.out).more BA.out.size)
  have HP := Lib.hid ((hp.below BA.out).more BA.out.size)
  have KN := Lib.hid (Blk.new w 42 #[.int .i64 kind, .int .u64 (q : Int), .int .i64 n, .slice A' p.length c'])
  clear hr hp
  go_enter Try.func32, Try.ntmps32
  go_wp2_with fail
  obtain ⟨W, hW⟩ : ∃ x, x = w.alloc (.cells #[.int .i64 kind, .int .u64 (q : Int), .int .i64 n, .slice A' p.length c'] 42) := ⟨_, rfl⟩
  obtain ⟨s, hs⟩ : ∃ s, s = w.heap.size := ⟨_, rfl⟩
  rw [← hW] at KN HR HP BA ⊢
  rw [← hs] at KN ⊢
  clear hW hs
  refine (refPutBytes_any HR.out (Nat.le_refl _) HP.out (Nat.le_refl _) (by omega)).mono ?_
  rintro e w1 h
  obtain ⟨v', rfl, ho, hb⟩ := h.out
  have HO := Lib.hid ho
  have HB := Lib.hid hb
  clear ho hb h
  go_wp2
  go_ret
  exact ⟨v', rfl, by rw [HE.out]; rw [← List.append_assoc]; exact owns_less HO.out BA.out.size, BA.out.trans (HB.out.mono BA.out.size)⟩
end Go.Proofs.Ytoeccclaaogihaa
