/- awake: some calls whose answers the document fixes. -/
import Derived.Test.YtnnladfndmdapaaEnt7
import Derived.Test.YtnnladfndmdapaaEnt8
import Derived.Deep.Cut
namespace Go.Proofs.Ytnnladfndmdapaa
open Go.RowKit

theorem lit_owns (w : World) (l : List UInt8) (hl : l.length ≤ 140737488355328) {cs : Array Value} (e : cs = (bys l).toArray) {n : Nat} (hn : n = l.length) : BOwns (w.alloc (.cells cs 5)) w.heap.size (.slice (some ⟨w.heap.size, 0, none⟩) n n) l := by
  subst e; subst hn
  have := World.ownsRow_lit (e := 5) (size := 1) w (bys l).toArray l.length (Nat.le_refl _) (by unfold maxLen; omega) (by simp [bys])
  unfold BOwns; simpa using this
theorem lit_reads (w : World) (l : List UInt8) (fr : Nat × Nat) {cs : Array Value} (e : cs = (bys l).toArray) : BReads (w.alloc (.cells cs 5 fr)) (w.alloc (.cells cs 5 fr)).heap.size (some ⟨w.heap.size, 0, none⟩) l := by
  subst e
  refine ⟨by rw [bys_length, Nat.mul_one], fun _ => ⟨w.heap.size, 0, rfl, by simp, fun j u hu => ?_⟩⟩
  rw [Nat.zero_add, cell_of_row _ w.heap.size j _ 5 fr (heap_alloc_new w _)]
  simpa using hu
theorem enc_k : En.enc ⟨1, 0, 0, ⟨#[107]⟩, [97, 98], false⟩ = [1, 2, 107, 4, 97, 98] := by simp [En.enc, intF, foldI, shortF_small, ByteArray.size]
theorem enc_6 : En.enc ⟨6, 64, 1, ⟨#[]⟩, [], false⟩ = [6, 128, 1, 2] := by simp [En.enc, intF, foldI, shortF_small, shortF_big]
theorem may_k : En.may ⟨1, 0, 0, ⟨#[107]⟩, [97, 98], false⟩ := by rw [may_1]; exact ⟨by decide, by decide, rfl, rfl, rfl, by decide⟩
theorem may_6 : En.may ⟨6, 64, 1, ⟨#[]⟩, [], false⟩ := by rw [may_m (by decide)]; exact ⟨by decide, by decide, by decide, by decide, by decide, rfl, rfl⟩
theorem dec_hit {w w' : World} {b : List UInt8} {e : Ending} {x : En} (h : DecPost w b e w') (hm : x.may) (he : x.enc = b) : ∃ A c, e = .returned (.tuple #[.agg (x.cells A c), .int .i64 0]) ∧ BOwns w' w.heap.size (.slice A x.value.length c) x.value ∧ Below w.heap.size w w' := by
  rcases h with ⟨y, h1, h2, h3⟩ | ⟨h, _⟩
  · have := enc_inj h1 hm (h2.trans he.symm)
    subst this; exact h3
  · exact absurd ⟨x, hm, he⟩ h
set_option maxRecDepth 100000 in
set_option maxHeartbeats 3200000 in
theorem awake_any {w : World} : Calls Try.prog 16 #[] w (True_ w) := by
  have kc := fun (w : World) (C : Array Value) (n c : Nat) => Lib.run_convert_bytes_const (P := Try.prog) w 23 5 C n c Try.underlying23 Try.underlying5
  have L1 := Lib.hid (lit_reads w [97, 98] (2, 3) (cs := #[.int .u8 97, .int .u8 98]) rfl)
  have B1 := Lib.hid ((Below.refl w.heap.size w).alloc (Nat.le_refl _) (.cells #[.int .u8 97, .int .u8 98] 5 (2, 3)))
  go_enter Try.func16, Try.ntmps16
  go_wp2_with fail
  obtain ⟨w1, hw1⟩ : ∃ x, x = w.alloc (.cells #[.int .u8 97, .int .u8 98] 5 (2, 3)) := ⟨_, rfl⟩
  rw [← hw1] at L1 B1 ⊢
  clear hw1 kc
  refine (encode_any (A := some ⟨w.heap.size, 0, none⟩) (c := 2) ⟨1, 0, 0, ⟨#[107]⟩, [97, 98], false⟩ L1.out (by decide) (by decide)).mono ?_
  rintro e w2 h
  rcases h with ⟨_, v', rfl, ho, hb⟩ | ⟨hm, _⟩
  case inr => exact absurd may_k hm
  rw [enc_k] at ho
  obtain ⟨A2, c2, rfl, _, hr2⟩ := BOwns.slice ho
  obtain ⟨LE, hLE⟩ : ∃ L : List UInt8, L = [1, 2, 107, 4, 97, 98] := ⟨_, rfl⟩
  have h6 : ([1, 2, 107, 4, 97, 98] : List UInt8).length = 6 := rfl
  have O2 := Lib.hid ho
  have B2 := Lib.hid (B1.out.trans (hb.mono B1.out.size))
  have L2 := Lib.hid (lit_owns w2 [6, 128, 1, 2] (by decide) (cs := #[.int .u8 6, .int .u8 128, .int .u8 1, .int .u8 2]) rfl (n := 4) rfl)
  have B3 := Lib.hid ((Below.refl w2.heap.size w2).alloc (Nat.le_refl _) (.cells #[.int .u8 6, .int .u8 128, .int .u8 1, .int .u8 2] 5))
  clear hb ho hr2 B1 L1 hLE h6
  go_wp2_with fail
  obtain ⟨w3, hw3⟩ : ∃ x, x = w2.alloc (.cells #[.int .u8 6, .int .u8 128, .int .u8 1, .int .u8 2] 5) := ⟨_, rfl⟩
  rw [← hw3] at L2 B3 ⊢
  clear hw3
  refine (decode_any (c := 4) L2.out.reads (by decide)).mono ?_
  rintro e w4 h
  obtain ⟨A4, c4, he4, ho4, hb4⟩ := dec_hit h may_6 enc_6
  obtain rfl : e = .returned (.tuple #[.agg #[.int .i64 6, .int .i64 64, .int .i64 1, .string ⟨#[]⟩, .slice A4 0 c4, .bool false], .int .i64 0]) := he4
  have O4 := Lib.hid (show BReads w4 w4.heap.size A4 [] from ho4.reads)
  have hb34 := B3.out.trans (hb4.mono B3.out.size)
  have O24 := Lib.hid (O2.out.below hb34)
  have B4 := Lib.hid (B2.out.trans (hb34.mono B2.out.size))
  clear h ho4 hb4 B3 L2 hb34 B2 O2
  have B5 := Lib.hid ((Below.refl w4.heap.size w4).alloc (Nat.le_refl _) (.cells #[.int .i64 6, .int .i64 64, .int .i64 1, .string ⟨#[]⟩, .slice A4 0 c4, .bool false] 25))
  have K5 := Lib.hid (Blk.new w4 25 #[.int .i64 6, .int .i64 64, .int .i64 1, .string ⟨#[]⟩, .slice A4 0 c4, .bool false])
  go_wp2_with fail
  obtain ⟨w5, hw5⟩ : ∃ x, x = w4.alloc (.cells #[.int .i64 6, .int .i64 64, .int .i64 1, .string ⟨#[]⟩, .slice A4 0 c4, .bool false] 25) := ⟨_, rfl⟩
  obtain ⟨X, hX⟩ : ∃ x, x = w4.heap.size := ⟨_, rfl⟩
  have HX := Lib.hid hX.symm
  rw [← hw5] at B5 K5 ⊢
  rw [← hX] at K5 ⊢
  clear hw5 hX
  refine (ofWrite_any (A := none) (c := 0) ⟨⟨#[107]⟩, 9, [], true⟩ Reads.none_ (by decide)).mono ?_
  rintro e w6 ⟨A6, c6, he6, ho6, hb6⟩
  obtain rfl : e = .returned (.agg #[.int .i64 2, .int .i64 0, .int .i64 0, .string ⟨#[107]⟩, .slice A6 0 c6, .bool false]) := he6
  have O6 := Lib.hid (show BReads w6 w6.heap.size A6 [] from ho6.reads)
  have B6 := Lib.hid hb6
  clear ho6 hb6
  go_wp2_with fail
  refine (version_any (A := A6) (c := c6) ⟨2, 0, 0, ⟨#[107]⟩, [], false⟩ O6.out (by decide)).mono ?_
  rintro e w7 ⟨A7, c7, he7, ho7, hb7⟩
  obtain rfl : e = .returned (.tuple #[.agg #[.string ⟨#[107]⟩, .int .i64 0, .slice A7 0 c7, .bool true], .bool true]) := he7
  have B57 := Lib.hid (B6.out.trans (hb7.mono B6.out.size))
  have B47 := Lib.hid (B5.out.trans (B57.out.mono B5.out.size))
  have K7 := Lib.hid (K5.out.below' B57.out)
  have O7 := Lib.hid (show BReads w7 w7.heap.size A7 [] from ho7.reads)
  have O27 := Lib.hid (O24.out.below B47.out)
  have O47 := Lib.hid (O4.out.below B47.out)
  have B47' := Lib.hid B47.out.size
  have B07 := Lib.hid (B4.out.trans (B47.out.mono B4.out.size))
  clear ho7 hb7 B57 K5 O24 O4 B47 B4 B6 B5 O6
  have K8 := Lib.hid (Blk.new w7 43 #[.string ⟨#[107]⟩, .int .i64 0, .slice A7 0 c7, .bool true])
  have B8 := Lib.hid ((Below.refl w7.heap.size w7).alloc (Nat.le_refl _) (.cells #[.string ⟨#[107]⟩, .int .i64 0, .slice A7 0 c7, .bool true] 43))
  go_upto_region 4 with fail
  obtain ⟨w8, hw8⟩ : ∃ x, x = w7.alloc (.cells #[.string ⟨#[107]⟩, .int .i64 0, .slice A7 0 c7, .bool true] 43) := ⟨_, rfl⟩
  obtain ⟨V, hV⟩ : ∃ x, x = w7.heap.size := ⟨_, rfl⟩
  rw [← hw8] at B8 K8 ⊢
  rw [← hV] at K8 ⊢
  clear hw8
  have HV := Lib.hid hV
  clear hV
  have K18 := Lib.hid (K7.out.below' B8.out)
  have k1 := conv_text (O27.out.below B8.out).reads c2
  rw [show ([1, 2, 107, 4, 97, 98] : List UInt8).length = 6 from rfl] at k1
  have q0 := K18.out.cell 0
  have q1 := K18.out.cell 1
  have q2 := K18.out.cell 2
  have q3 := K18.out.cell 3
  have q4 := K18.out.cell 4
  have q5 := K18.out.cell 5
  simp at q0 q1 q2 q3 q4 q5
  go_wp2_with fail
  refine (same_any (A := A4) (A' := none) (c := c4) (c' := 0) ⟨6, 64, 1, ⟨#[]⟩, [], false⟩ ((O47.out.below (B8.out.mono (B47'.out))).more (Nat.le_trans B47'.out B8.out.size)) Reads.none_).mono ?_
  rintro e w9 ⟨rfl, hb9⟩
  have K9 := Lib.hid (K8.out.below' hb9)
  have B9 := Lib.hid hb9
  clear hb9 q0 q1 q2 q3 q4 q5 k1 K18 K8 K7 O47
  have q0 := K9.out.cell 0
  have q1 := K9.out.cell 1
  have q2 := K9.out.cell 2
  have q3 := K9.out.cell 3
  simp at q0 q1 q2 q3
  go_wp2_with fail
  refine (sameVersion_any (A := A7) (A' := none) (c := c7) (c' := 0) ⟨⟨#[107]⟩, 0, [], true⟩ ((O7.out.below (B8.out.trans (B9.out.mono B8.out.size))).more (Nat.le_trans B8.out.size B9.out.size)) Reads.none_).mono ?_
  rintro e w10 ⟨rfl, hb10⟩
  have BE := Lib.hid (B07.out.trans ((B8.out.trans ((B9.out.trans (hb10.mono B9.out.size)).mono B8.out.size)).mono B07.out.size))
  clear hb10
  go_wp2
  go_ret
  exact ⟨rfl, BE.out⟩
end Go.Proofs.Ytnnladfndmdapaa
