/- EntryReads: the walk. -/
import Derived.Test.YtnnladfndmdapaaEntK
import Derived.Test.YtnnladfndmdapaaEnt11
import Derived.Test.YtnnladfndmdapaaEnt12
namespace Go.Proofs.Ytnnladfndmdapaa
open Go.RowKit

def En.zero : En := ⟨0, 0, 0, ⟨#[]⟩, [], false⟩
open Classical in
/-- The entry of bytes, and the error's number. -/
noncomputable def decF (b : List UInt8) : En × Int := if h : ∃ y : En, y.may ∧ y.enc = b then (h.choose, 0) else (En.zero, 100)
theorem decF_ok {b : List UInt8} {x : En} (hm : x.may) (he : x.enc = b) : decF b = (x, 0) := by
  have h : ∃ y : En, y.may ∧ y.enc = b := ⟨x, hm, he⟩
  unfold decF
  rw [dif_pos h]
  have := h.choose_spec
  rw [enc_inj this.1 hm (this.2.trans he.symm)]
theorem decF_no {b : List UInt8} (h : ¬ ∃ y : En, y.may ∧ y.enc = b) : decF b = (En.zero, 100) := by unfold decF; rw [dif_neg h]
theorem dec_both {w w' : World} {b : List UInt8} {e : Ending} (h : DecPost w b e w') : ∃ A c, e = .returned (.tuple #[.agg ((decF b).1.cells A c), .int .i64 (decF b).2]) ∧ Hid (BOwns w' w.heap.size (.slice A (decF b).1.value.length c) (decF b).1.value) ∧ Hid (Below w.heap.size w w') := by
  rcases h with ⟨y, h1, h2, A, c, rfl, ho, hb⟩ | ⟨h, rfl, hb⟩
  · rw [decF_ok h1 h2]; exact ⟨A, c, rfl, Lib.hid ho, Lib.hid hb⟩
  · rw [decF_no h]; exact ⟨none, 0, rfl, Lib.hid (BOwns.nil _ _), Lib.hid hb⟩
set_option maxRecDepth 100000 in
set_option maxHeartbeats 3200000 in
theorem entryReads_walk {w : World} {A : Option Addr} {c : Nat} {b : List UInt8} (hr : BReads w w.heap.size A b) (hc : b.length ≤ c) (hl0 : b.length ≤ reachBytes) :
    Calls Try.prog 5 #[.slice A b.length c] w (True_ w) := by
  have hl : b.length ≤ 140737488355328 := by unfold reachBytes at hl0; omega
  clear hl0
  obtain ⟨⟨X, F⟩, hX⟩ : ∃ x, x = decF b := ⟨_, rfl⟩
  obtain ⟨k, s, n, key, p, d⟩ := X
  have HX := Lib.hid hX
  have H0 := Lib.hid hr
  clear hr hX
  go_enter Try.func5, Try.ntmps5
  go_wp2_with (at_builtin; refine Stop.of ?_)
  refine ⟨append_bytes (BOwns.nil w _) H0.out.src (by simpa using hl) (Nat.le_refl _) rfl rfl rfl rfl ?_⟩
  intro v' w1 hown hg _
  obtain ⟨A1, c1, rfl, _, hr1⟩ := BOwns.slice hown
  have R1 := Lib.hid (show BReads w1 w1.heap.size A1 b from hr1)
  have B1 := Lib.hid (below_of_nil hg)
  have RB1 := Lib.hid ((H0.out.below B1.out).more B1.out.size)
  rw [show (([] : List UInt8) ++ b).length = b.length from rfl]
  clear hown hg hr1 H0
  go_wp2_with fail
  refine (decode_any R1.out hl).mono ?_
  rintro e w2 h
  obtain ⟨A2, c2, he, ho, hb⟩ := dec_both h
  rw [← HX.out] at he ho
  obtain rfl : e = .returned (.tuple #[.agg #[.int .i64 k, .int .i64 s, .int .i64 n, .string key, .slice A2 p.length c2, .bool d], .int .i64 F]) := he
  have O2 := Lib.hid (show BReads w2 w2.heap.size A2 p from ho.out.reads)
  have B2 := Lib.hid (B1.out.trans (hb.out.mono B1.out.size))
  have RB2 := Lib.hid ((RB1.out.below hb.out).more hb.out.size)
  clear h ho hb B1 R1 RB1
  have K3 := Lib.hid (Blk.new w2 25 #[.int .i64 k, .int .i64 s, .int .i64 n, .string key, .slice A2 p.length c2, .bool d])
  have B3 := Lib.hid ((Below.refl w2.heap.size w2).alloc (Nat.le_refl _) (.cells #[.int .i64 k, .int .i64 s, .int .i64 n, .string key, .slice A2 p.length c2, .bool d] 25))
  go_wp2_with fail
  obtain ⟨w3, hw3⟩ : ∃ x, x = w2.alloc (.cells #[.int .i64 k, .int .i64 s, .int .i64 n, .string key, .slice A2 p.length c2, .bool d] 25) := ⟨_, rfl⟩
  obtain ⟨X2, hX2⟩ : ∃ x, x = w2.heap.size := ⟨_, rfl⟩
  have HX2 := Lib.hid hX2
  rw [← hw3] at K3 B3 ⊢
  rw [← hX2] at K3 ⊢
  clear hw3 hX2
  refine (rdecode_any ((RB2.out.below B3.out).more B3.out.size) hl hc).mono ?_
  rintro e w4 h
  obtain ⟨A4, c4, he, ho, hb⟩ := dec_both h
  rw [← HX.out] at he ho
  obtain rfl : e = .returned (.tuple #[.agg #[.int .i64 k, .int .i64 s, .int .i64 n, .string key, .slice A4 p.length c4, .bool d], .int .i64 F]) := he
  have hb24 := B3.out.trans (hb.out.mono B3.out.size)
  have O4 := Lib.hid (show BReads w4 w4.heap.size A4 p from ho.out.reads)
  have O24 := Lib.hid ((O2.out.below hb24).more hb24.size)
  have B4 := Lib.hid (B2.out.trans (hb24.mono B2.out.size))
  have K4 := Lib.hid (K3.out.below' hb.out)
  clear h ho hb B2 B3 K3 RB2 hb24 O2
  have K5 := Lib.hid (Blk.new w4 25 #[.int .i64 k, .int .i64 s, .int .i64 n, .string key, .slice A4 p.length c4, .bool d])
  have B5 := Lib.hid ((Below.refl w4.heap.size w4).alloc (Nat.le_refl _) (.cells #[.int .i64 k, .int .i64 s, .int .i64 n, .string key, .slice A4 p.length c4, .bool d] 25))
  go_upto_region 3 with fail
  obtain ⟨w5, hw5⟩ : ∃ x, x = w4.alloc (.cells #[.int .i64 k, .int .i64 s, .int .i64 n, .string key, .slice A4 p.length c4, .bool d] 25) := ⟨_, rfl⟩
  obtain ⟨X4, hX4⟩ : ∃ x, x = w4.heap.size := ⟨_, rfl⟩
  have HX4 := Lib.hid hX4
  rw [← hw5] at K5 B5 ⊢
  rw [← hX4] at K5 ⊢
  clear hw5 hX4
  have K45 := Lib.hid (K4.out.below' B5.out)
  have q0 := K45.out.cell 0
  have q1 := K45.out.cell 1
  have q2 := K45.out.cell 2
  have q3 := K45.out.cell 3
  have q4 := K45.out.cell 4
  have q5 := K45.out.cell 5
  have z0 := K5.out.cell 0
  have z1 := K5.out.cell 1
  have z2 := K5.out.cell 2
  have z3 := K5.out.cell 3
  have z4 := K5.out.cell 4
  have z5 := K5.out.cell 5
  simp at q0 q1 q2 q3 q4 q5 z0 z1 z2 z3 z4 z5
  go_wp2_with fail
  refine (same_any (A := A2) (A' := A4) (c := c2) (c' := c4) ⟨k, s, n, key, p, d⟩ ((O24.out.below B5.out).more B5.out.size) ((O4.out.below B5.out).more B5.out.size)).mono ?_
  rintro e w6 ⟨rfl, hb⟩
  have B6 := Lib.hid (B4.out.trans ((B5.out.trans (hb.mono B5.out.size)).mono B4.out.size))
  clear hb B5 B4 q0 q1 q2 q3 q4 q5 z0 z1 z2 z3 z4 z5
  go_wp2_with fail
  refine awake_any.mono ?_
  rintro e w7 ⟨rfl, hb⟩
  have B7 := Lib.hid (B6.out.trans (hb.mono B6.out.size))
  clear hb
  go_wp2
  go_ret
  exact ⟨rfl, B7.out⟩
end Go.Proofs.Ytnnladfndmdapaa
