/- Contracts and plain laws that this claim leans on, laid together: Ent12, EntL2, Wal4, Wal5, EqI, WalP. -/
import Derived.Test.YtnnladfndmdapaaG15
import Derived.Test.YtnnladfndmdapaaG16
import Derived.Deep.Cut
import Derived.Test.YtnnladfndmdapaaG11
import Derived.Test.YtnnladfndmdapaaG14
import Derived.Test.YtnnladfndmdapaaG07
import Derived.Test.YtnnladfndmdapaaG12
import Derived.Sort.CutIn
import Derived.Test.YtnnladfndmdapaaG13
import Derived.BigQuiet
import Derived.Test.YtnnladfndmdapaaG03
import Derived.Deep.QuietTactic
set_option linter.all false
set_option linter.unusedVariables false
set_option linter.unusedSimpArgs false
set_option linter.unnecessarySimpa false
/- awake: some calls whose answers the document fixes. -/
namespace Go.Proofs.Ytnnladfndmdapaa
open Go.RowKit

theorem lit_owns (w : World) (l : List UInt8) (hl : l.length ≤ 140737488355328) {cs : Array Value} (e : cs = (bys l).toArray) {n : Nat} (hn : n = l.length) : BOwns (w.alloc (.cells cs 5)) w.heap.size (.slice (some ⟨w.heap.size, 0, none⟩) n n) l := by
  subst e; subst hn
  have := World.ownsRow_lit (e := 5) (size := 1) w (bys l).toArray l.length (Nat.le_refl _) (by unfold maxLen; omega) (by simp [bys])
  unfold BOwns; simpa using this
theorem lit_reads (w : World) (l : List UInt8) (fr : Nat × Nat) {cs : Array Value} (e : cs = (bys l).toArray) : BReads (w.alloc (.cells cs 5 fr)) (w.alloc (.cells cs 5 fr)).heap.size (some ⟨w.heap.size, 0, none⟩) l := by
  subst e
  refine ⟨by rw [bys_length, Nat.mul_one], fun _ => ⟨w.heap.size, 0, rfl, by simp, fun j u hu => ?_⟩⟩
  rw [Nat.zero_add, cell_of_row _ w.heap.size j _ 5 fr (heap_alloc_new w _)]
  simpa using hu
theorem enc_k : En.enc ⟨1, 0, 0, ⟨#[107]⟩, [97, 98], false⟩ = [1, 2, 107, 4, 97, 98] := by simp [En.enc, intF, foldI, shortF_small, ByteArray.size]
theorem enc_6 : En.enc ⟨6, 64, 1, ⟨#[]⟩, [], false⟩ = [6, 128, 1, 2] := by simp [En.enc, intF, foldI, shortF_small, shortF_big]
theorem may_k : En.may ⟨1, 0, 0, ⟨#[107]⟩, [97, 98], false⟩ := by rw [may_1]; exact ⟨by decide, by decide, rfl, rfl, rfl, by decide⟩
theorem may_6 : En.may ⟨6, 64, 1, ⟨#[]⟩, [], false⟩ := by rw [may_m (by decide)]; exact ⟨by decide, by decide, by decide, by decide, by decide, rfl, rfl⟩
theorem dec_hit {w w' : World} {b : List UInt8} {e : Ending} {x : En} (h : DecPost w b e w') (hm : x.may) (he : x.enc = b) : ∃ A c, e = .returned (.tuple #[.agg (x.cells A c), .int .i64 0]) ∧ BOwns w' w.heap.size (.slice A x.value.length c) x.value ∧ Below w.heap.size w w' := by
  rcases h with ⟨y, h1, h2, h3⟩ | ⟨h, _⟩
  · have := enc_inj h1 hm (h2.trans he.symm)
    subst this; exact h3
  · exact absurd ⟨x, hm, he⟩ h
set_option maxRecDepth 100000 in
set_option maxHeartbeats 3200000 in
theorem awake_any {w : World} : Calls Try.prog 16 #[] w (True_ w) := by
  have kc := fun (w : World) (C : Array Value) (n c : Nat) => Lib.run_convert_bytes_const (P := Try.prog) w 23 5 C n c Try.underlying23 Try.underlying5
  have L1 := Lib.hid (lit_reads w [97, 98] (2, 3) (cs := #[.int .u8 97, .int .u8 98]) rfl)
  have B1 := Lib.hid ((Below.refl w.heap.size w).alloc (Nat.le_refl _) (.cells #[.int .u8 97, .int .u8 98] 5 (2, 3)))
  go_enter Try.func16, Try.ntmps16
  go_wp2_with fail
  obtain ⟨w1, hw1⟩ : ∃ x, x = w.alloc (.cells #[.int .u8 97, .int .u8 98] 5 (2, 3)) := ⟨_, rfl⟩
  rw [← hw1] at L1 B1 ⊢
  clear hw1 kc
  refine (encode_any (A := some ⟨w.heap.size, 0, none⟩) (c := 2) ⟨1, 0, 0, ⟨#[107]⟩, [97, 98], false⟩ L1.out (by decide) (by decide)).mono ?_
  rintro e w2 h
  rcases h with ⟨_, v', rfl, ho, hb⟩ | ⟨hm, _⟩
  case inr => exact absurd may_k hm
  rw [enc_k] at ho
  obtain ⟨A2, c2, rfl, _, hr2⟩ := BOwns.slice ho
  obtain ⟨LE, hLE⟩ : ∃ L : List UInt8, L = [1, 2, 107, 4, 97, 98] := ⟨_, rfl⟩
  have h6 : ([1, 2, 107, 4, 97, 98] : List UInt8).length = 6 := rfl
  have O2 := Lib.hid ho
  have B2 := Lib.hid (B1.out.trans (hb.mono B1.out.size))
  have L2 := Lib.hid (lit_owns w2 [6, 128, 1, 2] (by decide) (cs := #[.int .u8 6, .int .u8 128, .int .u8 1, .int .u8 2]) rfl (n := 4) rfl)
  have B3 := Lib.hid ((Below.refl w2.heap.size w2).alloc (Nat.le_refl _) (.cells #[.int .u8 6, .int .u8 128, .int .u8 1, .int .u8 2] 5))
  clear hb ho hr2 B1 L1 hLE h6
  go_wp2_with fail
  obtain ⟨w3, hw3⟩ : ∃ x, x = w2.alloc (.cells #[.int .u8 6, .int .u8 128, .int .u8 1, .int .u8 2] 5) := ⟨_, rfl⟩
  rw [← hw3] at L2 B3 ⊢
  clear hw3
  refine (decode_any (c := 4) L2.out.reads (by decide)).mono ?_
  rintro e w4 h
  obtain ⟨A4, c4, he4, ho4, hb4⟩ := dec_hit h may_6 enc_6
  obtain rfl : e = .returned (.tuple #[.agg #[.int .i64 6, .int .i64 64, .int .i64 1, .string ⟨#[]⟩, .slice A4 0 c4, .bool false], .int .i64 0]) := he4
  have O4 := Lib.hid (show BReads w4 w4.heap.size A4 [] from ho4.reads)
  have hb34 := B3.out.trans (hb4.mono B3.out.size)
  have O24 := Lib.hid (O2.out.below hb34)
  have B4 := Lib.hid (B2.out.trans (hb34.mono B2.out.size))
  clear h ho4 hb4 B3 L2 hb34 B2 O2
  have B5 := Lib.hid ((Below.refl w4.heap.size w4).alloc (Nat.le_refl _) (.cells #[.int .i64 6, .int .i64 64, .int .i64 1, .string ⟨#[]⟩, .slice A4 0 c4, .bool false] 25))
  have K5 := Lib.hid (Blk.new w4 25 #[.int .i64 6, .int .i64 64, .int .i64 1, .string ⟨#[]⟩, .slice A4 0 c4, .bool false])
  go_wp2_with fail
  obtain ⟨w5, hw5⟩ : ∃ x, x = w4.alloc (.cells #[.int .i64 6, .int .i64 64, .int .i64 1, .string ⟨#[]⟩, .slice A4 0 c4, .bool false] 25) := ⟨_, rfl⟩
  obtain ⟨X, hX⟩ : ∃ x, x = w4.heap.size := ⟨_, rfl⟩
  have HX := Lib.hid hX.symm
  rw [← hw5] at B5 K5 ⊢
  rw [← hX] at K5 ⊢
  clear hw5 hX
  refine (ofWrite_any (A := none) (c := 0) ⟨⟨#[107]⟩, 9, [], true⟩ Reads.none_ (by decide)).mono ?_
  rintro e w6 ⟨A6, c6, he6, ho6, hb6⟩
  obtain rfl : e = .returned (.agg #[.int .i64 2, .int .i64 0, .int .i64 0, .string ⟨#[107]⟩, .slice A6 0 c6, .bool false]) := he6
  have O6 := Lib.hid (show BReads w6 w6.heap.size A6 [] from ho6.reads)
  have B6 := Lib.hid hb6
  clear ho6 hb6
  go_wp2_with fail
  refine (version_any (A := A6) (c := c6) ⟨2, 0, 0, ⟨#[107]⟩, [], false⟩ O6.out (by decide)).mono ?_
  rintro e w7 ⟨A7, c7, he7, ho7, hb7⟩
  obtain rfl : e = .returned (.tuple #[.agg #[.string ⟨#[107]⟩, .int .i64 0, .slice A7 0 c7, .bool true], .bool true]) := he7
  have B57 := Lib.hid (B6.out.trans (hb7.mono B6.out.size))
  have B47 := Lib.hid (B5.out.trans (B57.out.mono B5.out.size))
  have K7 := Lib.hid (K5.out.below' B57.out)
  have O7 := Lib.hid (show BReads w7 w7.heap.size A7 [] from ho7.reads)
  have O27 := Lib.hid (O24.out.below B47.out)
  have O47 := Lib.hid (O4.out.below B47.out)
  have B47' := Lib.hid B47.out.size
  have B07 := Lib.hid (B4.out.trans (B47.out.mono B4.out.size))
  clear ho7 hb7 B57 K5 O24 O4 B47 B4 B6 B5 O6
  have K8 := Lib.hid (Blk.new w7 43 #[.string ⟨#[107]⟩, .int .i64 0, .slice A7 0 c7, .bool true])
  have B8 := Lib.hid ((Below.refl w7.heap.size w7).alloc (Nat.le_refl _) (.cells #[.string ⟨#[107]⟩, .int .i64 0, .slice A7 0 c7, .bool true] 43))
  go_upto_region 4 with fail
  obtain ⟨w8, hw8⟩ : ∃ x, x = w7.alloc (.cells #[.string ⟨#[107]⟩, .int .i64 0, .slice A7 0 c7, .bool true] 43) := ⟨_, rfl⟩
  obtain ⟨V, hV⟩ : ∃ x, x = w7.heap.size := ⟨_, rfl⟩
  rw [← hw8] at B8 K8 ⊢
  rw [← hV] at K8 ⊢
  clear hw8
  have HV := Lib.hid hV
  clear hV
  have K18 := Lib.hid (K7.out.below' B8.out)
  have k1 := conv_text (O27.out.below B8.out).reads c2
  rw [show ([1, 2, 107, 4, 97, 98] : List UInt8).length = 6 from rfl] at k1
  have q0 := K18.out.cell 0
  have q1 := K18.out.cell 1
  have q2 := K18.out.cell 2
  have q3 := K18.out.cell 3
  have q4 := K18.out.cell 4
  have q5 := K18.out.cell 5
  simp at q0 q1 q2 q3 q4 q5
  go_wp2_with fail
  refine (same_any (A := A4) (A' := none) (c := c4) (c' := 0) ⟨6, 64, 1, ⟨#[]⟩, [], false⟩ ((O47.out.below (B8.out.mono (B47'.out))).more (Nat.le_trans B47'.out B8.out.size)) Reads.none_).mono ?_
  rintro e w9 ⟨rfl, hb9⟩
  have K9 := Lib.hid (K8.out.below' hb9)
  have B9 := Lib.hid hb9
  clear hb9 q0 q1 q2 q3 q4 q5 k1 K18 K8 K7 O47
  have q0 := K9.out.cell 0
  have q1 := K9.out.cell 1
  have q2 := K9.out.cell 2
  have q3 := K9.out.cell 3
  simp at q0 q1 q2 q3
  go_wp2_with fail
  refine (sameVersion_any (A := A7) (A' := none) (c := c7) (c' := 0) ⟨⟨#[107]⟩, 0, [], true⟩ ((O7.out.below (B8.out.trans (B9.out.mono B8.out.size))).more (Nat.le_trans B8.out.size B9.out.size)) Reads.none_).mono ?_
  rintro e w10 ⟨rfl, hb10⟩
  have BE := Lib.hid (B07.out.trans ((B8.out.trans ((B9.out.trans (hb10.mono B9.out.size)).mono B8.out.size)).mono B07.out.size))
  clear hb10
  go_wp2
  go_ret
  exact ⟨rfl, BE.out⟩
end Go.Proofs.Ytnnladfndmdapaa
/- EntryReads: the walk. -/
namespace Go.Proofs.Ytnnladfndmdapaa
open Go.RowKit

def En.zero : En := ⟨0, 0, 0, ⟨#[]⟩, [], false⟩
open Classical in
/-- The entry of bytes, and the error's number. -/
noncomputable def decF (b : List UInt8) : En × Int := if h : ∃ y : En, y.may ∧ y.enc = b then (h.choose, 0) else (En.zero, 100)
theorem decF_ok {b : List UInt8} {x : En} (hm : x.may) (he : x.enc = b) : decF b = (x, 0) := by
  have h : ∃ y : En, y.may ∧ y.enc = b := ⟨x, hm, he⟩
  unfold decF
  rw [dif_pos h]
  have := h.choose_spec
  rw [enc_inj this.1 hm (this.2.trans he.symm)]
theorem decF_no {b : List UInt8} (h : ¬ ∃ y : En, y.may ∧ y.enc = b) : decF b = (En.zero, 100) := by unfold decF; rw [dif_neg h]
theorem dec_both {w w' : World} {b : List UInt8} {e : Ending} (h : DecPost w b e w') : ∃ A c, e = .returned (.tuple #[.agg ((decF b).1.cells A c), .int .i64 (decF b).2]) ∧ Hid (BOwns w' w.heap.size (.slice A (decF b).1.value.length c) (decF b).1.value) ∧ Hid (Below w.heap.size w w') := by
  rcases h with ⟨y, h1, h2, A, c, rfl, ho, hb⟩ | ⟨h, rfl, hb⟩
  · rw [decF_ok h1 h2]; exact ⟨A, c, rfl, Lib.hid ho, Lib.hid hb⟩
  · rw [decF_no h]; exact ⟨none, 0, rfl, Lib.hid (BOwns.nil _ _), Lib.hid hb⟩
set_option maxRecDepth 100000 in
set_option maxHeartbeats 3200000 in
theorem entryReads_walk {w : World} {A : Option Addr} {c : Nat} {b : List UInt8} (hr : BReads w w.heap.size A b) (hc : b.length ≤ c) (hl0 : b.length ≤ reachBytes) :
    Calls Try.prog 5 #[.slice A b.length c] w (True_ w) := by
  have hl : b.length ≤ 140737488355328 := by unfold reachBytes at hl0; omega
  clear hl0
  obtain ⟨⟨X, F⟩, hX⟩ : ∃ x, x = decF b := ⟨_, rfl⟩
  obtain ⟨k, s, n, key, p, d⟩ := X
  have HX := Lib.hid hX
  have H0 := Lib.hid hr
  clear hr hX
  go_enter Try.func5, Try.ntmps5
  go_wp2_with (at_builtin; refine Stop.of ?_)
  refine ⟨append_bytes (BOwns.nil w _) H0.out.src (by simpa using hl) (Nat.le_refl _) rfl rfl rfl rfl ?_⟩
  intro v' w1 hown hg _
  obtain ⟨A1, c1, rfl, _, hr1⟩ := BOwns.slice hown
  have R1 := Lib.hid (show BReads w1 w1.heap.size A1 b from hr1)
  have B1 := Lib.hid (below_of_nil hg)
  have RB1 := Lib.hid ((H0.out.below B1.out).more B1.out.size)
  rw [show (([] : List UInt8) ++ b).length = b.length from rfl]
  clear hown hg hr1 H0
  go_wp2_with fail
  refine (decode_any R1.out hl).mono ?_
  rintro e w2 h
  obtain ⟨A2, c2, he, ho, hb⟩ := dec_both h
  rw [← HX.out] at he ho
  obtain rfl : e = .returned (.tuple #[.agg #[.int .i64 k, .int .i64 s, .int .i64 n, .string key, .slice A2 p.length c2, .bool d], .int .i64 F]) := he
  have O2 := Lib.hid (show BReads w2 w2.heap.size A2 p from ho.out.reads)
  have B2 := Lib.hid (B1.out.trans (hb.out.mono B1.out.size))
  have RB2 := Lib.hid ((RB1.out.below hb.out).more hb.out.size)
  clear h ho hb B1 R1 RB1
  have K3 := Lib.hid (Blk.new w2 25 #[.int .i64 k, .int .i64 s, .int .i64 n, .string key, .slice A2 p.length c2, .bool d])
  have B3 := Lib.hid ((Below.refl w2.heap.size w2).alloc (Nat.le_refl _) (.cells #[.int .i64 k, .int .i64 s, .int .i64 n, .string key, .slice A2 p.length c2, .bool d] 25))
  go_wp2_with fail
  obtain ⟨w3, hw3⟩ : ∃ x, x = w2.alloc (.cells #[.int .i64 k, .int .i64 s, .int .i64 n, .string key, .slice A2 p.length c2, .bool d] 25) := ⟨_, rfl⟩
  obtain ⟨X2, hX2⟩ : ∃ x, x = w2.heap.size := ⟨_, rfl⟩
  have HX2 := Lib.hid hX2
  rw [← hw3] at K3 B3 ⊢
  rw [← hX2] at K3 ⊢
  clear hw3 hX2
  refine (rdecode_any ((RB2.out.below B3.out).more B3.out.size) hl hc).mono ?_
  rintro e w4 h
  obtain ⟨A4, c4, he, ho, hb⟩ := dec_both h
  rw [← HX.out] at he ho
  obtain rfl : e = .returned (.tuple #[.agg #[.int .i64 k, .int .i64 s, .int .i64 n, .string key, .slice A4 p.length c4, .bool d], .int .i64 F]) := he
  have hb24 := B3.out.trans (hb.out.mono B3.out.size)
  have O4 := Lib.hid (show BReads w4 w4.heap.size A4 p from ho.out.reads)
  have O24 := Lib.hid ((O2.out.below hb24).more hb24.size)
  have B4 := Lib.hid (B2.out.trans (hb24.mono B2.out.size))
  have K4 := Lib.hid (K3.out.below' hb.out)
  clear h ho hb B2 B3 K3 RB2 hb24 O2
  have K5 := Lib.hid (Blk.new w4 25 #[.int .i64 k, .int .i64 s, .int .i64 n, .string key, .slice A4 p.length c4, .bool d])
  have B5 := Lib.hid ((Below.refl w4.heap.size w4).alloc (Nat.le_refl _) (.cells #[.int .i64 k, .int .i64 s, .int .i64 n, .string key, .slice A4 p.length c4, .bool d] 25))
  go_upto_region 3 with fail
  obtain ⟨w5, hw5⟩ : ∃ x, x = w4.alloc (.cells #[.int .i64 k, .int .i64 s, .int .i64 n, .string key, .slice A4 p.length c4, .bool d] 25) := ⟨_, rfl⟩
  obtain ⟨X4, hX4⟩ : ∃ x, x = w4.heap.size := ⟨_, rfl⟩
  have HX4 := Lib.hid hX4
  rw [← hw5] at K5 B5 ⊢
  rw [← hX4] at K5 ⊢
  clear hw5 hX4
  have K45 := Lib.hid (K4.out.below' B5.out)
  have q0 := K45.out.cell 0
  have q1 := K45.out.cell 1
  have q2 := K45.out.cell 2
  have q3 := K45.out.cell 3
  have q4 := K45.out.cell 4
  have q5 := K45.out.cell 5
  have z0 := K5.out.cell 0
  have z1 := K5.out.cell 1
  have z2 := K5.out.cell 2
  have z3 := K5.out.cell 3
  have z4 := K5.out.cell 4
  have z5 := K5.out.cell 5
  simp at q0 q1 q2 q3 q4 q5 z0 z1 z2 z3 z4 z5
  go_wp2_with fail
  refine (same_any (A := A2) (A' := A4) (c := c2) (c' := c4) ⟨k, s, n, key, p, d⟩ ((O24.out.below B5.out).more B5.out.size) ((O4.out.below B5.out).more B5.out.size)).mono ?_
  rintro e w6 ⟨rfl, hb⟩
  have B6 := Lib.hid (B4.out.trans ((B5.out.trans (hb.mono B5.out.size)).mono B4.out.size))
  clear hb B5 B4 q0 q1 q2 q3 q4 q5 z0 z1 z2 z3 z4 z5
  go_wp2_with fail
  refine awake_any.mono ?_
  rintro e w7 ⟨rfl, hb⟩
  have B7 := Lib.hid (B6.out.trans (hb.mono B6.out.size))
  clear hb
  go_wp2
  go_ret
  exact ⟨rfl, B7.out⟩
end Go.Proofs.Ytnnladfndmdapaa
/- Logs, by contract: Entries. -/
namespace Go.Proofs.Ytnnladfndmdapaa
open Go.RowKit
attribute [local go_sem] Oper.semAt_some

set_option maxRecDepth 100000 in
set_option maxHeartbeats 3200000 in
theorem lEntries_any {w : World} {gl : Nat} {d : Dk} (i : Nat) {p : Pt} (h : (lgItem gl d i).P w) (hn : d.ps.length ≤ 16) (hi0 : d.ps[i]? = some p) (hb0 : 0 ≤ p.a.base) (hb1 : p.a.base ≤ 4611686018427387904) (hl : p.a.l.length ≤ 8796093022208) (hs : p.a.safe ≤ p.a.l.length) :
    Calls Try.prog 41 #[.pointer (some ⟨gl, 0, none⟩)] w fun e w' => ∃ (ts : List Told) (A9 A10 : Option Addr) (c9 c10 : Nat), e = .returned (.tuple #[.slice A9 ts.length c9, .slice A10 ts.length c10]) ∧
      ∃ es : List Nat, (ts.map Told.x).zip es = tellF p.a.l ∧ es.length = ts.length ∧ Turn (Item.all []) w (Item.all (Item.rowT 25 6 (.slice A9 ts.length c9) ts.length (toldCells ts) :: Item.rowT 3 1 (.slice A10 ts.length c10) ts.length (endsV p.a.base es) :: toldRows ts)) w' := by
  have HI := Lib.hid h
  have T0 := Lib.hid (Turn.refl (x := Item.all []) (w := w) ⟨fun _ h => (by cases h), List.Pairwise.nil⟩)
  obtain ⟨L, hL⟩ : ∃ L, L = p.a.l := ⟨_, rfl⟩
  obtain ⟨bs, hbs⟩ : ∃ bs, bs = p.a.base := ⟨_, rfl⟩
  obtain ⟨sf, hsf⟩ : ∃ sf, sf = p.a.safe := ⟨_, rfl⟩
  have HB := lBounds_any i h hn hi0 hb0 hb1 (by omega) hs
  have HRD := fun (w' : World) (h' : (lgItem gl d i).P w') => dRead_any (lg_disk h') hn i hi0 0 p.a.l.length (by omega) hb0 hb1 (by omega)
  rw [← hL, ← hbs, ← hsf] at HB
  rw [← hL, ← hbs] at HRD
  rw [← hL] at hl hs ⊢
  rw [← hbs] at hb0 hb1 ⊢
  rw [← hsf] at hs
  have HBd := Lib.hid HB
  have HRd := Lib.hid HRD
  clear hL hbs hsf HB HRD h hi0
  refine callsIn_wide.1 (callsIn_of_wp_marks (n := 6) Try.func41 rfl trivial (wpIn_wide.2 ?_) rfl)
  simp only [Try.ntmps41, List.size_toArray, List.length_cons, List.length_nil, Nat.reduceAdd, Nat.reduceSub, Array.replicate_succ, Array.replicate_zero, List.push_toArray, List.append_toArray, List.nil_append, List.cons_append]
  go_wp2_with fail
  refine HBd.out.mono ?_
  rintro e w1 ⟨rfl, hb⟩
  have T1 := Lib.hid (T0.out.go hb)
  clear T0 hb
  have HI1 := Lib.hid (Item.go HI.out T1.out.free)
  go_upto_region 4 with fail
  obtain ⟨w2, hw2⟩ : ∃ x, x = w1.alloc (.cells #[.int .i64 bs] 3) := ⟨_, rfl⟩
  obtain ⟨g4, hg4⟩ : ∃ x, x = w1.heap.size := ⟨_, rfl⟩
  have T2 := Lib.hid (show Turn _ _ _ w2.drew from by rw [hw2]; exact (T1.out.more (y := Item.blk g4 3 #[.int .i64 bs]) ((Below.refl _ _).alloc (Nat.le_refl _) _) (by rw [hg4]; exact Blk.new _ _ _) (fun k hk => by cases hk; rw [hg4]; exact Nat.le_refl _)).go (Below.refl _ _).drew)
  rw [← hw2, ← hg4]
  clear hw2 hg4 T1 HI1
  have HI2 := Lib.hid (Item.go HI.out T2.out.free)
  have y0 := (lg_blk HI2.out).cell 0
  have y1 := (lg_blk HI2.out).cell 1
  have y2 := (show Blk w2.drew g4 3 #[.int .i64 bs] from T2.out.get (i := 0) rfl).cell 0
  simp [logCells] at y0 y1 y2
  have HX := HRd.out w2.drew HI2.out
  rw [show bs + ((0 : Nat) : Int) = bs from by omega] at HX
  have HXX := Lib.hid HX
  clear HX
  have hd1 : bs + (L.length : Int) - bs = (L.length : Int) := by omega
  have hd2 : IntKind.i64.wrap (L.length : Int) = (L.length : Int) := by rw [IntKind.wrap_i64]; omega
  go_region_held3 (fun w' => w'.cell? ⟨gl, 0, none⟩ = some (.pointer (some ⟨d.g, 0, none⟩)) ∧ w'.cell? ⟨gl, 1, none⟩ = some (.int .i64 (i : Int)) ∧ w'.cell? ⟨g4, 0, none⟩ = some (.int .i64 bs)) (first | (with_reducible exact ⟨y0, y1, y2⟩) | (with_reducible exact ⟨z0, z1, z2⟩) | go_keep) (first | (go_at_call 82; refine HXX.out.mono ?_; rintro e w3 ⟨A7, c7, rfl, ho, hb⟩; have O3 := Lib.hid ho; have T3 := Lib.hid (T2.out.go hb); have HI3 := Lib.hid (Item.go HI.out T3.out.free); have z0 := (lg_blk HI3.out).cell 0; have z1 := (lg_blk HI3.out).cell 1; have z2 := (show Blk w3 g4 3 #[.int .i64 bs] from T3.out.get (i := 0) rfl).cell 0; simp [logCells] at z0 z1 z2; clear ho hb))
  have R3 := Lib.hid (show BReads w3 w3.heap.size A7 L from by have h1 := O3.out.reads; rwa [List.drop_zero, List.take_length] at h1)
  clear O3 T2 HI2 HXX z0 z1 z2 y0 y1 y2 hd1 hd2 HBd HRd
  go_upto_region 7 with fail
  obtain ⟨w4, hw4⟩ : ∃ x, x = w3.alloc (.cells #[.slice none 0 0] 54) := ⟨_, rfl⟩
  obtain ⟨g9, hg9⟩ : ∃ x, x = w3.heap.size := ⟨_, rfl⟩
  have T4 := Lib.hid (show Turn _ _ _ w4 from by rw [hw4]; exact T3.out.more (y := Item.blk g9 54 #[.slice none 0 0]) ((Below.refl _ _).alloc (Nat.le_refl _) _) (by rw [hg9]; exact Blk.new _ _ _) (fun k hk => by cases hk; rw [hg9]; exact Nat.le_refl _))
  have R4 := Lib.hid (show BReads w4 w4.heap.size A7 L from by rw [hw4]; exact (R3.out.below ((Below.refl _ _).alloc (Nat.le_refl _) _)).more (by simp))
  rw [← hw4, show w3.heap.size + 1 = w4.heap.size from by rw [hw4]; simp, ← hg9]
  clear hw4 hg9 T3 R3
  obtain ⟨w5, hw5⟩ : ∃ x, x = w4.alloc (.cells #[.slice none 0 0] 64) := ⟨_, rfl⟩
  obtain ⟨g10, hg10⟩ : ∃ x, x = w4.heap.size := ⟨_, rfl⟩
  have T5 := Lib.hid (show Turn _ _ _ w5 from by rw [hw5]; exact T4.out.more (y := Item.blk g10 64 #[.slice none 0 0]) ((Below.refl _ _).alloc (Nat.le_refl _) _) (by rw [hg10]; exact Blk.new _ _ _) (fun k hk => by cases hk; rw [hg10]; exact Nat.le_refl _))
  have R5 := Lib.hid (show BReads w5 w5.heap.size A7 L from by rw [hw5]; exact (R4.out.below ((Below.refl _ _).alloc (Nat.le_refl _) _)).more (by simp))
  rw [← hw5, ← hg10]
  clear hw5 hg10 T4 R4
  go_wp2_with fail
  refine (all_any (c := c7) R5.out (by omega)).mono ?_
  rintro e w6 ⟨A8, c8, rfl, hcell, hc8, ho8, hlt8, hb⟩
  have T6 := Lib.hid (T5.out.go hb)
  have HCELL := Lib.hid hcell
  have HO8 := Lib.hid ho8
  clear hcell ho8
  go_wp2_with fail
  refine (wpIn_wide (n := 6)).1 ?_
  have HSEQ := all_seq (w0 := w6) (n := 5) (bx := w5.heap.size) (m₀ := w5.heap.size) (c := c8) (A := A8) (b := L) (by decide) (by omega) hc8 ⟨Nat.le_refl _, hlt8⟩ HCELL.out HO8.out
  obtain ⟨X0, hX0⟩ : ∃ X, X = Item.all [Item.blk g10 64 #[.slice none 0 0], Item.blk g9 54 #[.slice none 0 0], Item.blk g4 3 #[.int .i64 bs]] := ⟨_, rfl⟩
  have T0 := Lib.hid (Turn.refl T6.out.p)
  have HLT := Lib.hid (show ∀ k, X0.own k → k < w5.heap.size from fun k hk => (Item.all _).lt T5.out.p (by rw [hX0] at hk; exact hk))
  rw [← hX0] at T6
  have HX0 := Lib.hid hX0
  clear hX0 T5 hb
  refine range_got (F := Fence.wide) (n := 6) rfl (by decide) rfl trivial (fun caps w => callFunc_enter 106 Try.f106 _ Try.func106 rfl (by kernel_rfl) caps w) HSEQ (fun h k => h.trans k) ?hKb
    (EntI X0 w6 g9 g10 g4 bs) (fun c pre W => c = .exit 0 ∧ ∃ xs x, pre = xs ++ [x] ∧ EntI X0 w6 g9 g10 g4 bs xs W ∧ ¬ ∃ y : En, y.may ∧ y.enc = x.p) (entI_own (Nat.le_refl _)) ?hIx ?h0 ?hassign ?hbody ?hdone ?hstop
  case hassign =>
    intro l x W K hK
    simp only [gotFrame, List.setIfInBounds_toArray, List.set_cons_zero, List.set_cons_succ] at hK ⊢
    gi_wp2
    exact hK
  case hKb =>
    intro W l o o' hl _ _ _
    have hg := grownBy_putObj' W l o'
    refine ⟨hg.size, fun k _ h2 => ?_⟩
    simp [World.putObj, Array.getElem?_setIfInBounds]
    omega
  case hIx =>
    rintro c pre W W' row ⟨rfl, xs, x, rfl, hI, hn⟩ hg hr
    exact ⟨rfl, xs, x, rfl, entI_own (Nat.le_refl _) xs W W' row hI hg hr, hn⟩
  case h0 =>
    have t1 := (show Turn X0 w6 (Item.all [Item.blk g10 64 #[.slice none 0 0], Item.blk g9 54 #[.slice none 0 0], Item.blk g4 3 #[.int .i64 bs]]) w6 from by rw [HX0.out]; exact T0.out).more (y := Item.rowT 3 1 (.slice none 0 0) 0 []) (Below.refl _ _) (World.ownsRow_nil _ _ _ _) (fun k hk => by cases hk)
    have t2 := t1.more (y := Item.rowT 25 6 (.slice none 0 0) 0 []) (Below.refl _ _) (World.ownsRow_nil _ _ _ _) (fun k hk => by cases hk)
    refine ⟨[], .slice none 0 0, .slice none 0 0, rfl, rfl, t2.permR ?_⟩
    exact ((List.perm_append_comm (l₁ := [Item.rowT 25 6 (.slice none 0 0) 0 [], Item.rowT 3 1 (.slice none 0 0) 0 []]) (l₂ := [Item.blk g10 64 #[.slice none 0 0], Item.blk g9 54 #[.slice none 0 0]])).append_right [Item.blk g4 3 #[.int .i64 bs]]).trans (List.Perm.swap _ _ _)
  case hdone =>
    rintro D xs W hD hxs ⟨ts, v9, v10, htl, hlen, hT⟩ hDD
    obtain ⟨A9, c9, rfl, _, _⟩ := own_slice (hT.get (i := 2) rfl)
    obtain ⟨A10, c10, rfl, _, _⟩ := own_slice (hT.get (i := 3) rfl)
    have HT := Lib.hid hT
    have HE := Lib.hid (show (ts.map Told.x).zip (xs.map Got.at_) = tellF L from by rw [← htl, hxs]; rfl)
    have HLN := Lib.hid (show (xs.map Got.at_).length = ts.length from by rw [List.length_map, hlen])
    have y9 := (show Blk W g9 54 #[.slice A9 ts.length c9] from HT.out.get (i := 0) rfl).cell 0
    have y10 := (show Blk W g10 64 #[.slice A10 ts.length c10] from HT.out.get (i := 1) rfl).cell 0
    simp at y9 y10
    clear hxs hT htl hlen
    go_wp2_with fail
    go_quiet (fail)
    go_wp2
    refine marks_ret rfl hDD (fun w' => by simp [results, Try.results41]; rfl) ?_
    exact ⟨ts, A9, A10, c9, c10, rfl, xs.map Got.at_, HE.out, HLN.out, ents_end HT.out T6.out rfl rfl rfl rfl hD hDD⟩
  case hstop =>
    rintro D cc pre W hD hpre ⟨rfl, xs, x, rfl, ⟨ts, v9, v10, htl, hlen, hT⟩, hno⟩ hDD
    obtain ⟨A9, c9, rfl, _, _⟩ := own_slice (hT.get (i := 2) rfl)
    obtain ⟨A10, c10, rfl, _, _⟩ := own_slice (hT.get (i := 3) rfl)
    have HT := Lib.hid hT
    have HE := Lib.hid (show (ts.map Told.x).zip (xs.map Got.at_) = tellF L from by
      obtain ⟨r, hr⟩ := hpre
      unfold tellF
      rw [← htl, ← hr, List.map_append, List.map_cons, List.map_nil, List.append_assoc, List.singleton_append]
      exact (tellL_stop hno r _ (tellL_len htl (by simp [hlen]) (by simp))).symm)
    have HLN := Lib.hid (show (xs.map Got.at_).length = ts.length from by rw [List.length_map, hlen])
    have y9 := (show Blk W g9 54 #[.slice A9 ts.length c9] from HT.out.get (i := 0) rfl).cell 0
    have y10 := (show Blk W g10 64 #[.slice A10 ts.length c10] from HT.out.get (i := 1) rfl).cell 0
    simp at y9 y10
    clear hno hpre hT htl hlen
    refine wpIn_wide.2 ?_
    go_wp2_with fail
    go_quiet (fail)
    go_wp2
    refine marks_ret rfl hDD (fun w' => by simp [results, Try.results41]; rfl) ?_
    exact ⟨ts, A9, A10, c9, c10, rfl, xs.map Got.at_, HE.out, HLN.out, ents_end HT.out T6.out rfl rfl rfl rfl hD hDD⟩
  case hbody =>
    rintro l pre x W ⟨ts, v9, v10, htl, hlen, hT⟩ ⟨⟨hr, hp6⟩, hpf⟩
    obtain ⟨hcnt, hat⟩ := allF_bound _ _ _ hpf (Nat.zero_le _)
    have hcnt' : 9 * (pre.length + 1) ≤ L.length := by simpa using hcnt
    have hatl : x.at_ ≤ L.length := hat x.key (by simp)
    have HTL := Lib.hid htl
    have HLN := Lib.hid hlen
    have HT := Lib.hid hT
    have HTW := Lib.hid (Turn.refl hT.p)
    have HD := Lib.hid (decode_any (c := x.c) hr (by omega))
    clear hcnt hat htl hT hr hpf
    obtain ⟨at_, Ax, cx, p⟩ := x
    simp only [gotFrame, List.setIfInBounds_toArray, List.set_cons_zero, List.set_cons_succ] at hatl HD ⊢
    by_cases hdec : ∃ y : En, y.may ∧ y.enc = p
    · obtain ⟨⟨k, s, n, key, v, dd⟩, hym, hye⟩ := hdec
      have HD2 := Lib.hid (show Calls Try.prog 22 #[.slice Ax p.length cx] W (fun e w' => ∃ A c, e = .returned (.tuple #[.agg #[.int .i64 k, .int .i64 s, .int .i64 n, .string key, .slice A v.length c, .bool dd], .int .i64 0]) ∧ BOwns w' W.heap.size (.slice A v.length c) v ∧ Below W.heap.size W w') from HD.out.mono (by
        rintro e w' (⟨z, hz1, hz2, h⟩ | ⟨h, _⟩)
        · rw [enc_inj hz1 hym (hz2.trans hye.symm)] at h; exact h
        · exact absurd ⟨_, hym, hye⟩ h))
      have HYM := Lib.hid hym
      have HYE := Lib.hid hye
      clear HD hym hye
      gi_upto_region 12 with (refine ⟨trivial, ?_⟩; gi_at_call 22; refine (CallsIn.inRound l (callsIn_wide.2 HD2.out)).mono ?_; rintro e w1 ⟨A2, c2, rfl, ho, hb⟩; have HO2 := Lib.hid ho; have HB2 := Lib.hid hb; clear ho hb)
      have T1 := HTW.out.more HB2.out (y := Item.row (.slice A2 v.length c2) v) (owns_less HO2.out (Nat.zero_le _)) (fun k hk => (HO2.out.lt hk).1)
      have T2 := T1.more (y := Item.blk w1.heap.size 25 #[.int .i64 k, .int .i64 s, .int .i64 n, .string key, .slice A2 v.length c2, .bool dd]) ((Below.refl _ _).alloc (Nat.le_refl _) _) (Blk.new _ _ _) (fun k hk => by cases hk; exact Nat.le_refl _)
      have T3 := T2.permR ((List.perm_append_comm (l₁ := [Item.blk w1.heap.size 25 #[.int .i64 k, .int .i64 s, .int .i64 n, .string key, .slice A2 v.length c2, .bool dd], Item.row (.slice A2 v.length c2) v]) (l₂ := [Item.blk g9 54 #[v9], Item.blk g10 64 #[v10], Item.rowT 25 6 v9 ts.length (toldCells ts), Item.rowT 3 1 v10 ts.length (endsV bs (pre.map Got.at_))])).append_right (Item.blk g4 3 #[.int .i64 bs] :: toldRows ts))
      clear T1 T2 HTW HB2 HO2 HD2
      refine ents_region (g4 := g4) (g13 := w1.heap.size) (base := bs) (at_ := at_) (n := ts.length) (k := k) (s := s) (m := n) (key := key) (A := A2) (p := v) (c := c2) (d := dd) rfl rfl rfl rfl rfl rfl (by simp) (by simp) (by omega) (by omega) T3 ?_
      intro a w' A9 A10 c9 c10 hfr hT4
      exact ent_round (x := ⟨at_, Ax, cx, p⟩) (t := ⟨⟨k, s, n, key, v, dd⟩, A2, c2⟩) HTL.out HLN.out HT.out HYM.out HYE.out HLT.out hT4
    · have HD2 := Lib.hid (show Calls Try.prog 22 #[.slice Ax p.length cx] W (fun e w' => e = .returned (.tuple #[.agg #[.int .i64 0, .int .i64 0, .int .i64 0, .string ⟨#[]⟩, .slice none 0 0, .bool false], .int .i64 100]) ∧ Below W.heap.size W w') from HD.out.mono (by
        rintro e w' (⟨z, hz1, hz2, h⟩ | ⟨_, h⟩)
        · exact absurd ⟨z, hz1, hz2⟩ hdec
        · exact h))
      have HDE := Lib.hid hdec
      clear HD hdec
      gi_wp2_with (refine ⟨trivial, ?_⟩; gi_at_call 22; refine (CallsIn.inRound l (callsIn_wide.2 HD2.out)).mono ?_; rintro e w1 ⟨rfl, hb⟩; have HB2 := Lib.hid hb; clear hb)
      have hb := HB2.out.trans (((Below.refl _ _).alloc (Nat.le_refl _) (.cells #[.int .i64 0, .int .i64 0, .int .i64 0, .string ⟨#[]⟩, .slice none 0 0, .bool false] 25)).mono HB2.out.size)
      exact ⟨(HTW.out.go hb).keepsFrom HT.out.p (solid_ents _ _ _ _ _ _ _ _), rfl, pre, _, rfl, ⟨ts, v9, v10, HTL.out, HLN.out, HT.out.go hb⟩, HDE.out⟩
end Go.Proofs.Ytnnladfndmdapaa
/- The law's fit and Alike, by contract. -/
namespace Go.Proofs.Ytnnladfndmdapaa
open Go.RowKit

theorem Alike_true {w : World} {A A' : Option Addr} {c c' : Nat} {l : List En} (h : kEn.Sl w w.heap.size A l) (h' : kEn.Sl w w.heap.size A' l) (hl : l.length ≤ 140737488355328) : 
    Calls Try.prog 42 #[.slice A l.length c, .slice A' l.length c'] w (True_ w) := by
  have H := Lib.hid h
  have H' := Lib.hid h'
  clear h h'
  go_enter Try.func42, Try.ntmps42
  go_wp2
  go_loopw [13] (fun t wr => ∃ (K : Nat), t = .int .i64 K ∧ K ≤ l.length ∧ Hid (Below w.heap.size w wr)) (fun t _ => l.length - (intOf t).toNat)
  case atStart => exact ⟨0, rfl, by omega, Lib.hid (Below.refl _ _)⟩
  case round =>
    obtain ⟨K, rfl, hK, hB⟩ := hrel
    by_cases hlt : (K : Int) < (l.length : Int)
    · have hKN : K < l.length := by omega
      obtain ⟨bb, off, Av, cv, rfl, hbb, hints, s0, s1, s2, s3, s4, s5, hval⟩ := en_at (H.out.below hB.out) hKN
      obtain ⟨bb', off', Av', cv', rfl, hbb', hints', s0', s1', s2', s3', s4', s5', hval'⟩ := en_at (H'.out.below hB.out) hKN
      have hsz := hB.out.size
      obtain ⟨x, hx⟩ : ∃ x, x = l[K] := ⟨_, rfl⟩
      rw [← hx] at s0 s1 s2 s3 s4 s5 hval s0' s1' s2' s3' s4' s5' hval'
      have HV := Lib.hid ((hval.below (Below.refl _ _).drew).more hsz)
      have HV' := Lib.hid ((hval'.below (Below.refl _ _).drew).more hsz)
      obtain ⟨k, s, n, key, v, dd⟩ := x
      simp only at s0 s1 s2 s3 s4 s5 s0' s1' s2' s3' s4' s5'
      have hKi : K + 1 ≤ l.length := by omega
      clear hx hval hval' hints hints'
      have hbr : bb < wr.drew.heap.size := Nat.lt_of_lt_of_le hbb hsz
      have hbr' : bb' < wr.drew.heap.size := Nat.lt_of_lt_of_le hbb' hsz
      go_wp2_with fail
      go_region_held3 (fun w' => w'.cell? ⟨bb, off + K * 6, none⟩ = some (.int .i64 k) ∧ w'.cell? ⟨bb, off + K * 6 + 1, none⟩ = some (.int .i64 s) ∧ w'.cell? ⟨bb, off + K * 6 + 2, none⟩ = some (.int .i64 n) ∧ w'.cell? ⟨bb, off + K * 6 + 3, none⟩ = some (.string key) ∧ w'.cell? ⟨bb, off + K * 6 + 4, none⟩ = some (.slice Av v.length cv) ∧ w'.cell? ⟨bb, off + K * 6 + 5, none⟩ = some (.bool dd) ∧ w'.cell? ⟨bb', off' + K * 6, none⟩ = some (.int .i64 k) ∧ w'.cell? ⟨bb', off' + K * 6 + 1, none⟩ = some (.int .i64 s) ∧ w'.cell? ⟨bb', off' + K * 6 + 2, none⟩ = some (.int .i64 n) ∧ w'.cell? ⟨bb', off' + K * 6 + 3, none⟩ = some (.string key) ∧ w'.cell? ⟨bb', off' + K * 6 + 4, none⟩ = some (.slice Av' v.length cv') ∧ w'.cell? ⟨bb', off' + K * 6 + 5, none⟩ = some (.bool dd)) (first | (with_reducible exact ⟨s0, s1, s2, s3, s4, s5, s0', s1', s2', s3', s4', s5'⟩) | (with_reducible exact ⟨z0, z1, z2, z3, z4, z5, z0b, z1b, z2b, z3b, z4b, z5b⟩) | go_keep) ((go_at_call 24; refine (same_any (A := Av) (A' := Av') (c := cv) (c' := cv') ⟨k, s, n, key, v, dd⟩ HV.out HV'.out).mono ?_; rintro e w2 ⟨rfl, hb⟩; have HB := Lib.hid (hB.out.trans (((Below.refl wr.heap.size wr).drew.trans hb).mono hsz)); have z0 := (hb.cell (p := ⟨bb, off + K * 6, none⟩) hbr).trans s0; have z1 := (hb.cell (p := ⟨bb, off + K * 6 + 1, none⟩) hbr).trans s1; have z2 := (hb.cell (p := ⟨bb, off + K * 6 + 2, none⟩) hbr).trans s2; have z3 := (hb.cell (p := ⟨bb, off + K * 6 + 3, none⟩) hbr).trans s3; have z4 := (hb.cell (p := ⟨bb, off + K * 6 + 4, none⟩) hbr).trans s4; have z5 := (hb.cell (p := ⟨bb, off + K * 6 + 5, none⟩) hbr).trans s5; have z0b := (hb.cell (p := ⟨bb', off' + K * 6, none⟩) hbr').trans s0'; have z1b := (hb.cell (p := ⟨bb', off' + K * 6 + 1, none⟩) hbr').trans s1'; have z2b := (hb.cell (p := ⟨bb', off' + K * 6 + 2, none⟩) hbr').trans s2'; have z3b := (hb.cell (p := ⟨bb', off' + K * 6 + 3, none⟩) hbr').trans s3'; have z4b := (hb.cell (p := ⟨bb', off' + K * 6 + 4, none⟩) hbr').trans s4'; have z5b := (hb.cell (p := ⟨bb', off' + K * 6 + 5, none⟩) hbr').trans s5'; clear hb))
      go_wp2
      exact ⟨⟨K + 1, by go_num, hKi, HB⟩, by simp [intOf]; omega⟩
    · obtain rfl : K = l.length := by omega
      go_wp2
      go_ret
      exact ⟨rfl, hB.out⟩
theorem en_val {w : World} {B : Nat} {A : Option Addr} {l : List En} (h : kEn.Sl w B A l) {i : Nat} (hi : i < l.length) {b off n c' : Nat} {A' : Option Addr} (hA : A = some ⟨b, off, none⟩) (hc : w.cell? ⟨b, off + i * 6 + 4, none⟩ = some (.slice A' n c')) :
    BReads w B A' (l[i]).value ∧ (l[i]).value.length ≤ c' := by
  obtain ⟨b2, off2, hA2, hb, hr⟩ := h (by omega)
  rw [hA] at hA2
  injection hA2 with hA2
  injection hA2 with e1 e2
  subst e1; subst e2
  obtain ⟨cs, hR, hcs⟩ := hr i _ (List.getElem?_eq_getElem hi)
  obtain ⟨A2, c2, rfl, h1, h2, h3⟩ := en_R hR
  have h4 := hcs 4 _ rfl
  have h5 := hc.symm.trans (show w.cell? ⟨b, off + i * 6 + 4, none⟩ = _ from h4)
  injection h5 with h5
  injection h5 with h6 h7 h8
  subst h6; subst h8
  exact ⟨h2, h3⟩
open Classical in
/-- The entries that may be. -/
noncomputable def fitF (es : List En) : List En := es.filter fun e => decide e.may
theorem fitF_may {es : List En} : ∀ e ∈ fitF es, e.may := fun e he => by
  unfold fitF at he
  simpa using (List.mem_filter.1 he).2
theorem fitF_len (es : List En) : (fitF es).length ≤ es.length := List.length_filter_le _ _
theorem fitF_mem {es : List En} {x : En} (h : x ∈ fitF es) : x ∈ es := (List.mem_filter.1 h).1
theorem fitF_yes {es : List En} {K : Nat} (h : K < es.length) (hm : (es[K]).may) : fitF (es.take (K + 1)) = fitF (es.take K) ++ [es[K]] := by
  unfold fitF
  rw [List.take_succ_eq_append_getElem h, List.filter_append]
  simp [hm]
theorem fitF_no {es : List En} {K : Nat} (h : K < es.length) (hm : ¬ (es[K]).may) : fitF (es.take (K + 1)) = fitF (es.take K) := by
  unfold fitF
  rw [List.take_succ_eq_append_getElem h, List.filter_append]
  simp [hm]
theorem Try.info25 : (Try.prog.info? 25).map (fun i => (i.zero, i.size, i.bytes)) = some (some (.agg #[.int .i64 0, .int .i64 0, .int .i64 0, .string ⟨#[]⟩, .slice none 0 0, .bool false]), 6, 72) := by kernel_rfl
/-- What fit answers. -/
def FitPost (w : World) (B : Nat) (es : List En) (e : Ending) (w' : World) : Prop :=
  ∃ (ts : List Told) (A' : Option Addr) (c' : Nat), ts.map Told.x = fitF es ∧ e = .returned (.slice A' (fitF es).length c') ∧ Turn (Item.all []) w (Item.all [Item.rowT 25 6 (.slice A' (fitF es).length c') (fitF es).length (toldCells ts)]) w' ∧
    ∀ t ∈ ts, t.x.ints ∧ BReads w B t.A t.x.value ∧ t.x.value.length ≤ t.c
set_option maxRecDepth 100000 in
set_option maxHeartbeats 1600000 in
theorem fit_any {w : World} {B : Nat} (hB : B ≤ w.heap.size) {A : Option Addr} {c : Nat} {es : List En} (h : kEn.Sl w B A es) (hks : ∀ e ∈ es, e.key.size ≤ 140737488355328 ∧ e.value.length ≤ 140737488355328) (hl : es.length ≤ 1099511627776) :
    Calls Try.prog 38 #[.slice A es.length c] w (FitPost w B es) := by
  have H := Lib.hid h
  have HKS := Lib.hid hks
  have HT0 := Lib.hid ((Turn.refl (x := Item.all []) (w := w) ⟨fun _ h => (by cases h), List.Pairwise.nil⟩).more (y := Item.rowT 25 6 (.slice none 0 0) 0 []) (Below.refl _ _) (World.ownsRow_nil _ _ _ _) (fun k hk => by cases hk))
  clear h hks
  go_enter Try.func38, Try.ntmps38
  go_wp2
  go_loopw [8, 3] (fun t u wr => ∃ (K m c' : Nat) (A' : Option Addr), t = .int .i64 K ∧ u = .slice A' m c' ∧ K ≤ es.length ∧ m ≤ K ∧ Hid (∃ ts : List Told, ts.length = m ∧ ts.map Told.x = fitF (es.take K) ∧ (∀ t ∈ ts, t.x.ints ∧ BReads w B t.A t.x.value ∧ t.x.value.length ≤ t.c) ∧ Turn (Item.all []) w (Item.all [Item.rowT 25 6 (.slice A' m c') m (toldCells ts)]) wr)) (fun t _ _ => es.length - (intOf t).toNat)
  case atStart => exact ⟨0, 0, 0, none, rfl, rfl, by omega, by omega, Lib.hid ⟨[], rfl, by simp [fitF], fun t ht => (by cases ht), HT0.out⟩⟩
  case round =>
    obtain ⟨K, m, c', A', rfl, rfl, hK, hm, hH⟩ := hrel
    by_cases hlt : (K : Int) < (es.length : Int)
    · have hKN : K < es.length := by omega
      have hbw : Hid (Below w.heap.size w wr) := by obtain ⟨ts, _, _, _, hT⟩ := hH.out; exact Lib.hid hT.free
      obtain ⟨bb, off, Av, cv, rfl, hbb, hints, s0, s1, s2, s3, s4, s5, hval⟩ := en_at (H.out.below (hbw.out.mono hB)) hKN
      have hbr : bb < wr.heap.size := Nat.lt_of_lt_of_le hbb (Nat.le_trans hB hbw.out.size)
      have hks := HKS.out _ (List.getElem_mem hKN)
      have HVW := Lib.hid (en_val H.out hKN rfl ((hbw.out.cell (p := ⟨bb, off + K * 6 + 4, none⟩) (Nat.lt_of_lt_of_le hbb hB)).symm.trans s4))
      have HIN := Lib.hid hints
      have HX1 := Lib.hid (fun hmy => fitF_yes hKN hmy)
      have HX2 := Lib.hid (fun hmy => fitF_no hKN hmy)
      obtain ⟨x, hx⟩ : ∃ x, x = es[K] := ⟨_, rfl⟩
      rw [← hx] at s0 s1 s2 s3 s4 s5 hks HVW HIN HX1 HX2
      obtain ⟨k, s, n, key, v, dd⟩ := x
      simp only at s0 s1 s2 s3 s4 s5 hks
      have hKi : K + 1 ≤ es.length := by omega
      clear hx hval hints hbb
      have BA := Lib.hid ((Below.refl wr.heap.size wr).alloc (Nat.le_refl _) (.cells #[.int .i64 k, .int .i64 s, .int .i64 n, .string key, .slice Av v.length cv, .bool dd] 25))
      have KA := Lib.hid (Blk.new wr 25 #[.int .i64 k, .int .i64 s, .int .i64 n, .string key, .slice Av v.length cv, .bool dd])
      go_wp2_with fail
      refine (rcheck_any (A := Av) (c := cv) ⟨k, s, n, key, v, dd⟩ hks.1 hks.2).mono ?_
      rintro e w1 ⟨rfl, hb⟩
      have B1 := Lib.hid (BA.out.trans (hb.mono BA.out.size))
      have K1 := KA.out.below' hb
      have q0 := K1.cell 0
      have q1 := K1.cell 1
      have q2 := K1.cell 2
      have q3 := K1.cell 3
      have q4 := K1.cell 4
      have q5 := K1.cell 5
      simp at q0 q1 q2 q3 q4 q5
      clear hb BA KA K1 s0 s1 s2 s3 s4 s5
      by_cases hmy : En.may ⟨k, s, n, key, v, dd⟩
      · rw [En.chk_ok hmy]
        have HX := Lib.hid (HX1.out hmy)
        clear hmy HX1 HX2
        go_wp2_with (at_builtin; refine Stop.of ?_)
        obtain ⟨ts, h1, h2, h3, h4⟩ := hH.out
        have B2 := Lib.hid (B1.out.trans (((Below.refl w1.heap.size w1).alloc (Nat.le_refl _) (.cells #[.int .i64 k, .int .i64 s, .int .i64 n, .string key, .slice Av v.length cv, .bool dd] 25)).mono B1.out.size))
        have T2 := Lib.hid (h4.go B2.out)
        refine ⟨wpList_append_any _ rfl rfl 0 Try.underlying54 Try.info25 rfl (by decide) (by decide) rfl (T2.out.get (i := 0) rfl) rfl (fresh_src (Blk.new w1 25 #[.int .i64 k, .int .i64 s, .int .i64 n, .string key, .slice Av v.length cv, .bool dd]) Try.underlying54 rfl (by decide) rfl) (by omega) (Nat.zero_le _) ?_⟩
        intro v' w3 ho hg hf
        have T3 := T2.out.step (i := 0) rfl (Turn.rowT (v := .slice A' m c') (n := m) (xs := toldCells ts) ho hg hf)
        obtain ⟨A3, c3, rfl, _, _⟩ := own_slice ho
        have HR := Lib.hid (show ∃ ts : List Told, ts.length = m + 1 ∧ ts.map Told.x = fitF (es.take (K + 1)) ∧ (∀ t ∈ ts, t.x.ints ∧ BReads w B t.A t.x.value ∧ t.x.value.length ≤ t.c) ∧ Turn (Item.all []) w (Item.all [Item.rowT 25 6 (.slice A3 (m + 1) c3) (m + 1) (toldCells ts)]) w3 from
          ⟨ts ++ [⟨⟨k, s, n, key, v, dd⟩, Av, cv⟩], by simp [h1], by rw [HX.out, List.map_append, h2]; rfl, fun t ht => by
            rcases List.mem_append.1 ht with ht | ht
            · exact h3 t ht
            · simp only [List.mem_cons, List.not_mem_nil, or_false] at ht; subst ht; exact ⟨HIN.out, HVW.out⟩, by rw [toldCells_snoc]; exact T3⟩)
        clear h1 h2 h3 h4 T2 T3 ho hg hf HX B2 q0 q1 q2 q3 q4 q5 hH HVW HIN H
        go_wp2
        exact ⟨⟨K + 1, m + 1, c3, A3, by go_num, rfl, hKi, by omega, HR⟩, by simp [intOf]; omega⟩
      · rw [En.chk_no hmy]
        have HX := Lib.hid (HX2.out hmy)
        clear hmy HX1 HX2
        go_wp2
        refine ⟨⟨K + 1, m, c', A', by go_num, rfl, hKi, by omega, Lib.hid ?_⟩, by simp [intOf]; omega⟩
        obtain ⟨ts, h1, h2, h3, h4⟩ := hH.out
        exact ⟨ts, h1, h2.trans HX.out.symm, h3, h4.go B1.out⟩
    · obtain rfl : K = es.length := by omega
      have HH := hH.out
      clear hH
      obtain ⟨ts, rfl, h2, h3, h4⟩ := HH
      have hFl : ts.length = (fitF es).length := by rw [List.take_length] at h2; rw [← h2, List.length_map]
      have HF := Lib.hid (show FitPost w B es (.returned (.slice A' ts.length c')) wr from ⟨ts, A', c', by rw [h2, List.take_length], by rw [hFl], by rw [← hFl]; exact h4, h3⟩)
      clear hFl
      clear h2 h3 h4
      go_wp2
      go_ret
      exact HF.out
end Go.Proofs.Ytnnladfndmdapaa
/- slices.Equal of ints, by its contract. -/
namespace Go.Proofs.Ytnnladfndmdapaa
open Go.RowKit

/-- Ints as cells. -/
def ivs (l : List Int) : List Value := l.map fun b => Value.int .i64 b
theorem ivs_length (l : List Int) : (ivs l).length = l.length := by simp [ivs]
theorem ivs_get (l : List Int) (k : Nat) : (ivs l)[k]? = (l[k]?).map fun b => Value.int .i64 b := by simp [ivs]
/-- The slice at A reads as the ints l, in blocks below B. -/
def IReads (w : World) (B : Nat) (A : Option Addr) (l : List Int) : Prop := Reads w B 1 A l.length (ivs l)
theorem IReads.at_ {w : World} {B : Nat} {A : Option Addr} {l : List Int} (h : IReads w B A l) {k : Nat} (hk : k < l.length) :
    ∃ b off, A = some ⟨b, off, none⟩ ∧ b < B ∧ w.cell? ⟨b, off + k, none⟩ = some (.int .i64 l[k]) := by
  obtain ⟨b, off, e, hb, hc⟩ := h.2 (by omega)
  exact ⟨b, off, e, hb, hc k _ (by rw [ivs_get, List.getElem?_eq_getElem hk]; rfl)⟩
theorem take_succ_eqI {a b : List Int} {k : Nat} (ha : k < a.length) (hb : k < b.length) (h : a.take k = b.take k) (hx : a[k] = b[k]) : a.take (k + 1) = b.take (k + 1) := by
  rw [List.take_succ_eq_append_getElem ha, List.take_succ_eq_append_getElem hb, h, hx]

theorem equalI_any {w : World} {B B' c c' : Nat} {A A' : Option Addr} {a b : List Int} (ha : IReads w B A a) (hb : IReads w B' A' b) (hl : a.length ≤ 140737488355328) :
    Calls Try.prog 45 #[.slice A a.length c, .slice A' b.length c'] w (SaysB w (decide (a = b))) := by
  by_cases hne : a.length = b.length
  · have HN := Lib.hid hne
    have h0 : ((a.length : Int) != (b.length : Int)) = false := by rw [hne]; simp
    clear hne
    go_enter Try.func45, Try.ntmps45
    go_wp2
    go_loopw [13] (fun i wr => ∃ (k m : Nat), i = .int .i64 k ∧ k ≤ a.length ∧ Hid (a.take k = b.take k) ∧ Hid (wr = w.drewN m)) (fun i _ => a.length - (intOf i).toNat)
    case atStart => exact ⟨0, 0, rfl, Nat.zero_le _, Lib.hid rfl, Lib.hid rfl⟩
    case round =>
      obtain ⟨k, m, rfl, hk, ht, hw⟩ := hrel
      have hw0 := hw.out
      subst hw0
      by_cases hlt : k < a.length
      · have hltb : k < b.length := by have := HN.out; omega
        obtain ⟨b1, o1, rfl, _, c1⟩ := ha.at_ hlt
        obtain ⟨b2, o2, rfl, _, c2⟩ := hb.at_ hltb
        have hi0 : 0 ≤ (k : Int) := by omega
        have hi1 : (k : Int) < (a.length : Int) := by omega
        have hi2 : (k : Int) < (b.length : Int) := by omega
        by_cases hx : a[k] = b[k]
        · have hv : (a[k] != b[k]) = false := by rw [hx]; simp
          have HX := Lib.hid hx
          clear hx
          go_wp2
          go_quiet (fail)
          go_wp2
          go_roundw
          case rel => exact ⟨k + 1, _, by go_num, by omega, Lib.hid (take_succ_eqI hlt hltb ht.out HX.out), Lib.hid rfl⟩
          case measure => simp [intOf]; omega
        · have hv : (a[k] != b[k]) = true := by
            rw [bne_iff_ne]; intro e; exact hx e
          have HX := Lib.hid hx
          clear hx
          go_wp2
          go_quiet (fail)
          go_wp2
          go_ret
          exact ⟨congrArg (fun b => Ending.returned (.bool b)) (decide_eq_false (fun e => HX.out (by simp only [e]))).symm, _, World.drewN_drewN ..⟩
      · go_wp2
        go_ret
        have hk0 : k = a.length := by omega
        have := ht.out
        rw [hk0, List.take_length] at this
        exact ⟨congrArg (fun b => Ending.returned (.bool b)) (decide_eq_true (this.trans (by rw [HN.out, List.take_length]))).symm, _, rfl⟩
  · have h0 : ((a.length : Int) != (b.length : Int)) = true := by rw [bne_iff_ne]; omega
    have HN := Lib.hid hne
    clear hne
    go_enter Try.func45, Try.ntmps45
    go_wp2
    go_ret
    exact ⟨congrArg (fun b => Ending.returned (.bool b)) (decide_eq_false (fun e => HN.out (by rw [e]))).symm, 0, rfl⟩
end Go.Proofs.Ytnnladfndmdapaa
/- What a log tells of its own frames, and of bytes behind them: the plain law. -/
namespace Go.Proofs.Ytnnladfndmdapaa
open Go.RowKit

theorem framesF_ge (es : List En) : es.length ≤ (framesF es).length := by
  induction es with
  | nil => simp
  | cons e r ih =>
    have h : framesF (e :: r) = frameF e.enc ++ framesF r := rfl
    rw [h, List.length_append, frameF_len, List.length_cons]; omega
theorem framesF_append (a b : List En) : framesF (a ++ b) = framesF a ++ framesF b := by unfold framesF; simp
/-- Bytes that no frame begins with. -/
def NoMark (z : List UInt8) : Prop := ∀ b, z.head? = some b → b ≠ 197
theorem readF_no {z : List UInt8} (h : NoMark z) : ∃ m, readF z = .error m := by
  unfold readF
  by_cases h0 : z.length = 0
  · exact ⟨_, if_pos h0⟩
  · rw [if_neg h0]
    cases z with
    | nil => exact absurd rfl h0
    | cons b r =>
      have hb := h b rfl
      refine ⟨_, if_pos ?_⟩
      simpa using hb
theorem tellF_junk {es : List En} (hm : ∀ e ∈ es, e.may) {z : List UInt8} (hz : NoMark z) : tellF (framesF es ++ z) = endsF 0 es := by
  have hg := framesF_ge es
  unfold tellF
  have e1 : (framesF es ++ z).length + 1 = ((framesF es ++ z).length - es.length + 1) + es.length := by rw [List.length_append]; omega
  rw [e1, tell_frames es hm (framesF es ++ z) z 0 _ (by rw [List.drop_zero]), allF, Nat.zero_add, List.drop_left' rfl]
  obtain ⟨m, hr⟩ := readF_no hz
  rw [hr]
  simp [tellL]
theorem tellF_frames {es : List En} (hm : ∀ e ∈ es, e.may) : tellF (framesF es) = endsF 0 es := by
  have h := tellF_junk hm (z := []) (fun b h => by cases h)
  rwa [List.append_nil] at h
theorem endsF_fst : ∀ (es : List En) (t : Nat), (endsF t es).map Prod.fst = es
  | [], _ => rfl
  | e :: r, t => by rw [endsF, List.map_cons, endsF_fst r]
theorem endsF_len (es : List En) (t : Nat) : (endsF t es).length = es.length := by
  have := congrArg List.length (endsF_fst es t)
  simpa using this
/-- Where entries that are laid one behind the other end. -/
def offsF (t : Nat) (es : List En) : List Nat := (endsF t es).map Prod.snd
theorem offsF_len (es : List En) (t : Nat) : (offsF t es).length = es.length := by unfold offsF; rw [List.length_map, endsF_len]
theorem told_of {xs : List En} {ns : List Nat} {es : List En} (h : xs.zip ns = endsF 0 es) (hl : ns.length = xs.length) : xs = es ∧ ns = offsF 0 es := by
  have h1 := congrArg (List.map Prod.fst) h
  have h2 := congrArg (List.map Prod.snd) h
  rw [endsF_fst, List.map_fst_zip (by omega)] at h1
  rw [List.map_snd_zip (by omega)] at h2
  exact ⟨h1, h2⟩
theorem offsF_last : ∀ (es : List En) (t : Nat) (h : es ≠ []), (offsF t es).getLast? = some (t + (framesF es).length)
  | [e], t, _ => by simp [offsF, endsF, framesF, frameF_len]
  | e :: f :: r, t, _ => by
    have ih := offsF_last (f :: r) (t + (e.enc.length + 9)) (by simp)
    have h1 : offsF t (e :: f :: r) = (t + (e.enc.length + 9)) :: offsF (t + (e.enc.length + 9)) (f :: r) := rfl
    have h2 : framesF (e :: f :: r) = frameF e.enc ++ framesF (f :: r) := rfl
    have h3 : offsF (t + (e.enc.length + 9)) (f :: r) ≠ [] := by
      intro h
      have := congrArg List.length h
      rw [offsF_len] at this
      simp at this
    rw [h1, h2, List.getLast?_cons_of_ne_nil h3, ih, List.length_append, frameF_len, Nat.add_assoc]
theorem offsF_append : ∀ (a b : List En) (t : Nat), offsF t (a ++ b) = offsF t a ++ offsF (t + (framesF a).length) b
  | [], b, t => by simp [offsF, endsF, framesF]
  | e :: a, b, t => by
    have ih := offsF_append a b (t + (e.enc.length + 9))
    have h1 : ∀ r, offsF t (e :: r) = (t + (e.enc.length + 9)) :: offsF (t + (e.enc.length + 9)) r := fun _ => rfl
    have h2 : framesF (e :: a) = frameF e.enc ++ framesF a := rfl
    rw [List.cons_append, h1, h1, ih, h2, List.length_append, frameF_len, List.cons_append, Nat.add_assoc t]
theorem offsF_shift : ∀ (es : List En) (t : Nat), offsF t es = (offsF 0 es).map (t + ·)
  | [], t => rfl
  | e :: r, t => by
    have h1 : ∀ s, offsF s (e :: r) = (s + (e.enc.length + 9)) :: offsF (s + (e.enc.length + 9)) r := fun _ => rfl
    rw [h1, h1, offsF_shift r (t + _), offsF_shift r (0 + _), List.map_cons, List.map_map]
    congr 1
    · omega
    · apply List.map_congr_left
      intro x _
      show t + (e.enc.length + 9) + x = t + (0 + (e.enc.length + 9) + x)
      omega
/-- Where the entries of a log end. -/
def endsI (base : Int) (es : List En) : List Int := (offsF 0 es).map fun o : Nat => base + (o : Int)
theorem endsI_len (base : Int) (es : List En) : (endsI base es).length = es.length := by unfold endsI; rw [List.length_map, offsF_len]
theorem endsI_append (base : Int) (a b : List En) : endsI base (a ++ b) = endsI base a ++ endsI (base + ((framesF a).length : Nat)) b := by
  unfold endsI
  rw [offsF_append, List.map_append, offsF_shift b (0 + _), List.map_map]
  congr 1
  apply List.map_congr_left
  intro x _
  show base + ((0 + (framesF a).length + x : Nat) : Int) = base + ((framesF a).length : Nat) + (x : Int)
  omega
theorem endsI_take (base : Int) (es : List En) (k : Nat) : endsI base (es.take k) = (endsI base es).take k := by
  by_cases hk : k ≤ es.length
  · conv => rhs; rw [← List.take_append_drop k es, endsI_append]
    rw [List.take_left' (by rw [endsI_len, List.length_take]; omega)]
  · rw [List.take_of_length_le (by omega), List.take_of_length_le (by rw [endsI_len]; omega)]
theorem endsI_drop (base : Int) (es : List En) {k : Nat} (hk : k ≤ es.length) : endsI (base + ((framesF (es.take k)).length : Nat)) (es.drop k) = (endsI base es).drop k := by
  conv => rhs; rw [← List.take_append_drop k es, endsI_append]
  rw [List.drop_left' (by rw [endsI_len, List.length_take]; omega)]
theorem endsI_last (base : Int) {es : List En} (h : es ≠ []) : (endsI base es).getLast? = some (base + ((framesF es).length : Nat)) := by
  unfold endsI
  rw [List.getLast?_map, offsF_last es 0 h, Option.map_some, Nat.zero_add]
theorem endsI_get (base : Int) {es : List En} {i : Nat} (hi : i < es.length) : (endsI base es)[i]? = some (base + ((framesF (es.take (i + 1))).length : Nat)) := by
  have h1 := endsI_last base (es := es.take (i + 1)) (by intro h; have := congrArg List.length h; rw [List.length_take, List.length_nil] at this; omega)
  rw [endsI_take, List.getLast?_eq_getElem?, List.length_take, endsI_len] at h1
  rw [← h1, List.getElem?_take_of_lt (by omega)]
  congr 1; omega
theorem framesF_split (es : List En) (k : Nat) : framesF es = framesF (es.take k) ++ framesF (es.drop k) := by
  rw [← framesF_append, List.take_append_drop]
end Go.Proofs.Ytnnladfndmdapaa
