/- short and Encode of the reference, by contract (printed by a program of this claim's own). -/
import Derived.Test.YtnnladfndmdapaaEnt3
import Derived.Test.YtnnladfndmdapaaEnt4
namespace Go.Proofs.Ytnnladfndmdapaa
open Go.RowKit

theorem rshort_any {w : World} {base : Nat} {v : Value} {l : List UInt8} (n : Int) (hown : BOwns w base v l) (hbase : base ≤ w.heap.size)
    (h0 : 0 ≤ n) (h1 : n ≤ 4611686018427387904) (hl : l.length ≤ 140737488355200) :
    Calls Try.prog 61 #[v, .int .i64 n] w (GivesOn base w v (l ++ intF n)) := by
  have hf : foldI n = (2 * n).toNat := by unfold foldI; rw [if_pos h0]
  obtain ⟨N, hN⟩ : ∃ N, N = foldI n := ⟨_, rfl⟩
  have H0 := Lib.hid (show intF n = shortF N from by rw [hN]; rfl)
  have hN2 : (2 * n : Int) = (N : Int) := by omega
  have hNl : (N : Int) < 18446744073709551616 := by omega
  have hlen := Lib.hid (intF_length (n := n) (by omega) (by omega))
  have e1 : IntKind.u64.wrap n = n := by rw [wrap_u64]; omega
  have e2 : n % 18446744073709551616 = n := by omega
  have e3 : IntKind.u64.wrap (2 * n) = (N : Int) := by rw [wrap_u64]; omega
  have e4 : 2 * n % 18446744073709551616 = (N : Int) := by omega
  clear hf hN
  go_enter Try.func61, Try.ntmps61
  go_wp2
  clear e1 e2 e3 e4 hN2
  go_loopw [0, 5] (fun b u wr => ∃ (U : Nat) (pre : List UInt8), u = .int .u64 U ∧ (U : Int) < 18446744073709551616 ∧ Hid (intF n = pre ++ shortF U) ∧ Hid (BOwns wr base b (l ++ pre)) ∧ Hid (w.grownBy wr v.ownBlock) ∧ Hid (OwnFrom w v.ownBlock b))
    (fun _ u _ => (intOf u).toNat)
  case atStart => exact ⟨N, [], rfl, hNl, H0, Lib.hid (by simpa using hown), Lib.hid (World.grownBy.refl _ _), Lib.hid (.inl rfl)⟩
  case round =>
    obtain ⟨U, pre, rfl, hU, hpre, ho, hg, hf⟩ := hrel
    have hpl : (l ++ pre).length ≤ 140737488355300 := by
      have e := congrArg List.length hpre.out
      have := hlen.out
      simp only [List.length_append] at e ⊢
      omega
    by_cases hlt : (128 : Int) ≤ (U : Int)
    · go_wp2_with (at_builtin; refine Stop.of ?_)
      refine ⟨append_bytes (m := [UInt8.ofNat (U % 128 + 128)]) (ho.out.alloc _) (byte_src wr _ (by rw [u8_int _ (by omega)]; omega)) (by simp only [List.length_cons, List.length_nil]; omega) (by have := hg.out.size; simp; omega) rfl rfl rfl rfl ?_⟩
      intro v' w1 ho1 hg1 hf1
      have HO := Lib.hid ho1
      have HG := Lib.hid (grown_step (grown_alloc hg.out _) hf.out hg1)
      have HF := Lib.hid (OwnFrom.step hf.out (by have := hg.out.size; simp; omega) hf1)
      clear ho1 hg1 hf1
      go_wp2
      go_roundw
      case rel => exact ⟨U / 128, pre ++ [UInt8.ofNat (U % 128 + 128)], by go_num, by omega, Lib.hid (by rw [hpre.out, shortF_big (u := U) (by omega)]; simp), Lib.hid (by simpa using HO.out), HG, HF⟩
      case measure => simp [intOf]; omega
    · go_wp2_with (at_builtin; refine Stop.of ?_)
      refine ⟨append_bytes (m := [UInt8.ofNat U]) (ho.out.alloc _) (byte_src wr _ (by rw [u8_int _ (by omega)]; try omega)) (by simp only [List.length_cons, List.length_nil]; omega) (by have := hg.out.size; simp; omega) rfl rfl rfl rfl ?_⟩
      intro v' w1 ho1 hg1 hf1
      have HO := Lib.hid ho1
      have HG := Lib.hid (grown_step (grown_alloc hg.out _) hf.out hg1)
      have HF := Lib.hid (OwnFrom.step hf.out (by have := hg.out.size; simp; omega) hf1)
      clear ho1 hg1 hf1
      go_wp2
      go_ret
      exact ⟨v', rfl, by rw [hpre.out, shortF_small (u := U) (by omega), ← List.append_assoc]; exact HO.out, HG.out, HF.out⟩
set_option maxRecDepth 100000 in
set_option maxHeartbeats 1600000 in
theorem renc_1_false {w : World} {A : Option Addr} {c : Nat} (key : ByteArray) (v : List UInt8) (hm : En.may ⟨1, 0, 0, key, v, false⟩) (hr : BReads w w.heap.size A v) :
    Calls Try.prog 19 #[.agg (En.cells ⟨1, 0, 0, key, v, false⟩ A c)] w (EncPost w ⟨1, 0, 0, key, v, false⟩) := by
  have HC := Lib.hid (En.chk_ok hm)
  have HM := Lib.hid hm
  have hbd := En.may_bounds hm
  simp only at hbd
  have a5 := Lib.hid (str_length key)
  clear hm
  have BA := Lib.hid ((Below.refl w.heap.size w).alloc (Nat.le_refl _) (.cells #[.int .i64 1, .int .i64 0, .int .i64 0, .string key, .slice A v.length c, .bool false] 25))
  have KN := Lib.hid (Blk.new w 25 #[.int .i64 1, .int .i64 0, .int .i64 0, .string key, .slice A v.length c, .bool false])
  unfold En.cells
  simp only
  have HR := Lib.hid ((hr.below BA.out).more BA.out.size)
  have H00 := Lib.hid hr
  clear hr
  go_enter Try.func19, Try.ntmps19
  go_wp2_with fail
  obtain ⟨W, hW⟩ : ∃ x, x = w.alloc (.cells #[.int .i64 1, .int .i64 0, .int .i64 0, .string key, .slice A v.length c, .bool false] 25) := ⟨_, rfl⟩
  obtain ⟨T, hT⟩ : ∃ x, x = w.heap.size := ⟨_, rfl⟩
  have HT := Lib.hid hT
  rw [← hW, ← hT] at KN
  rw [← hW] at BA HR
  rw [← hW, ← hT]
  clear hW hT
  refine (rcheck_any ⟨1, 0, 0, key, v, false⟩ (by simp <;> omega) (by simp <;> omega)).mono ?_
  rintro e w1 ⟨rfl, hb⟩
  rw [HC.out]
  have KN1 := Lib.hid (KN.out.below' hb)
  have HR1 := Lib.hid ((HR.out.below hb).more hb.size)
  have B1 := Lib.hid (BA.out.trans (hb.mono BA.out.size))
  clear hb KN HR BA
  have x0 := KN1.out.cell 0
  simp at x0
  have hT1 := KN1.out.lt
  go_wp2_with fail
  have KN2 := Lib.hid (KN1.out.alloc (.cells #[.int .u8 1] 5))
  have O2 := Lib.hid (owns_less (byte_owns w1 1 (n := 1) (by decide)) B1.out.size)
  have B2 := Lib.hid (B1.out.alloc B1.out.size (.cells #[.int .u8 1] 5))
  have hX := (Below.refl w1.heap.size w1).alloc (Nat.le_refl _) (.cells #[.int .u8 1] 5)
  have HR2 := Lib.hid ((HR1.out.below hX).more hX.size)
  clear hX
  obtain ⟨w2, hw2⟩ : ∃ x, x = w1.alloc (.cells #[.int .u8 1] 5) := ⟨_, rfl⟩
  obtain ⟨v2, hv2⟩ : ∃ x, x = Value.slice (some ⟨w1.heap.size, 0, none⟩) 1 1 := ⟨_, rfl⟩
  rw [← hw2] at KN2 B2 HR2
  rw [← hw2, ← hv2] at O2
  rw [← hw2, ← hv2]
  obtain ⟨L2, hL2⟩ : ∃ L : List UInt8, L = [1] := ⟨_, rfl⟩
  rw [← hL2] at O2
  have e2 := Lib.hid hL2
  have l2 : L2.length ≤ 1 := by rw [hL2]; simp
  clear hw2 hv2 hL2 x0 hT1 KN1 HR1 B1
  have q0 := KN2.out.cell 0
  have q1 := KN2.out.cell 1
  have q2 := KN2.out.cell 2
  have q3 := KN2.out.cell 3
  have q4 := KN2.out.cell 4
  have q5 := KN2.out.cell 5
  simp at q0 q1 q2 q3 q4 q5
  go_wp2_with fail
  refine (keyed_any 1).mono ?_
  rintro e wz ⟨rfl, rfl⟩
  rw [show keyedF 1 = true from rfl]
  go_wp2_with fail
  refine (rshort_any (key.size : Int) O2.out B2.out.size (by omega) (by omega) (by omega)).mono ?_
  rintro e w3 h
  obtain ⟨v3, rfl, ho, hg, _⟩ := h.out
  clear h
  obtain ⟨L3, hL3⟩ : ∃ L : List UInt8, L = L2 ++ intF key.size := ⟨_, rfl⟩
  rw [← hL3] at ho
  have e3 := Lib.hid hL3
  have l3 : L3.length ≤ 11 := by rw [hL3]; have := intF_length (n := (key.size : Int)) (by omega) (by omega); simp only [List.length_append]; omega
  have B3 := Lib.hid (below_grown B2.out O2.out hg)
  have G3 := Lib.hid (show Keeps (fun k => some k = v2.ownBlock) w2 w3 from Keeps.of_grown hg)
  have KN3 := Lib.hid (Rws.blk (w0 := w) O2.out KN2.out (by decide) G3.out)
  have HR3 := Lib.hid (show BReads w3 w3.heap.size A v from (H00.out.below B3.out).more B3.out.size)
  have O3 := Lib.hid ho
  clear ho hg hL3 KN2 HR2 G3 O2 B2
  clear q0 q1 q2 q3 q4 q5
  have q0 := KN3.out.cell 0
  have q1 := KN3.out.cell 1
  have q2 := KN3.out.cell 2
  have q3 := KN3.out.cell 3
  have q4 := KN3.out.cell 4
  have q5 := KN3.out.cell 5
  simp at q0 q1 q2 q3 q4 q5
  go_wp2_with (at_builtin; refine Stop.of ?_)
  have ha5 := a5.out
  refine ⟨append_bytes O3.out (str_src key) (by omega) B3.out.size rfl rfl rfl rfl ?_⟩
  intro v4 w4 ho hg _
  obtain ⟨L4, hL4⟩ : ∃ L : List UInt8, L = L3 ++ key.data.toList := ⟨_, rfl⟩
  rw [← hL4] at ho
  have e4 := Lib.hid hL4
  have l4 : L4.length ≤ 266 := by rw [hL4]; simp only [List.length_append]; omega
  have B4 := Lib.hid (below_grown B3.out O3.out hg)
  have G4 := Lib.hid (show Keeps (fun k => some k = v3.ownBlock) w3 w4 from Keeps.of_grown hg)
  have KN4 := Lib.hid (Rws.blk (w0 := w) O3.out KN3.out (by decide) G4.out)
  have HR4 := Lib.hid (show BReads w4 w4.heap.size A v from (H00.out.below B4.out).more B4.out.size)
  have O4 := Lib.hid ho
  clear ho hg hL4 KN3 HR3 G4 O3 B3
  clear ha5
  clear q0 q1 q2 q3 q4 q5
  have q0 := KN4.out.cell 0
  have q1 := KN4.out.cell 1
  have q2 := KN4.out.cell 2
  have q3 := KN4.out.cell 3
  have q4 := KN4.out.cell 4
  have q5 := KN4.out.cell 5
  simp at q0 q1 q2 q3 q4 q5
  go_wp2_with fail
  refine (stamped_any 1).mono ?_
  rintro e wz ⟨rfl, rfl⟩
  rw [show stampedF 1 = false from rfl]
  go_wp2_with fail
  refine (counted_any 1).mono ?_
  rintro e wz ⟨rfl, rfl⟩
  rw [show countedF 1 = false from rfl]
  go_wp2_with fail
  refine (valued_any 1).mono ?_
  rintro e wz ⟨rfl, rfl⟩
  rw [show valuedF 1 = true from rfl]
  go_wp2_with fail
  refine (rshort_any (v.length : Int) O4.out B4.out.size (by omega) (by omega) (by omega)).mono ?_
  rintro e w5 h
  obtain ⟨v5, rfl, ho, hg, _⟩ := h.out
  clear h
  obtain ⟨L5, hL5⟩ : ∃ L : List UInt8, L = L4 ++ intF (v).length := ⟨_, rfl⟩
  rw [← hL5] at ho
  have e5 := Lib.hid hL5
  have l5 : L5.length ≤ 276 := by rw [hL5]; have := intF_length (n := (v.length : Int)) (by (try simp only [List.length_nil]); omega) (by (try simp only [List.length_nil]); omega); simp only [List.length_append]; omega
  have B5 := Lib.hid (below_grown B4.out O4.out hg)
  have G5 := Lib.hid (show Keeps (fun k => some k = v4.ownBlock) w4 w5 from Keeps.of_grown hg)
  have KN5 := Lib.hid (Rws.blk (w0 := w) O4.out KN4.out (by decide) G5.out)
  have HR5 := Lib.hid (show BReads w5 w5.heap.size A v from (H00.out.below B5.out).more B5.out.size)
  have O5 := Lib.hid ho
  clear ho hg hL5 KN4 HR4 G5 O4 B4
  clear q0 q1 q2 q3 q4 q5
  have q0 := KN5.out.cell 0
  have q1 := KN5.out.cell 1
  have q2 := KN5.out.cell 2
  have q3 := KN5.out.cell 3
  have q4 := KN5.out.cell 4
  have q5 := KN5.out.cell 5
  simp at q0 q1 q2 q3 q4 q5
  go_wp2_with (at_builtin; refine Stop.of ?_)
  refine ⟨append_bytes O5.out (BReads.src (l := v) HR5.out) (by (try simp only [List.length_nil]); omega) B5.out.size rfl rfl rfl rfl ?_⟩
  intro v6 w6 ho hg _
  obtain ⟨L6, hL6⟩ : ∃ L : List UInt8, L = L5 ++ v := ⟨_, rfl⟩
  rw [← hL6] at ho
  have e6 := Lib.hid hL6
  have l6 : L6.length ≤ 4372 := by rw [hL6]; simp only [List.length_append]; (try simp only [List.length_nil]); omega
  have B6 := Lib.hid (below_grown B5.out O5.out hg)
  have G6 := Lib.hid (show Keeps (fun k => some k = v5.ownBlock) w5 w6 from Keeps.of_grown hg)
  have KN6 := Lib.hid (Rws.blk (w0 := w) O5.out KN5.out (by decide) G6.out)
  have HR6 := Lib.hid (show BReads w6 w6.heap.size A v from (H00.out.below B6.out).more B6.out.size)
  have O6 := Lib.hid ho
  clear ho hg hL6 KN5 HR5 G6 O5 B5
  clear q0 q1 q2 q3 q4 q5
  have q0 := KN6.out.cell 0
  have q1 := KN6.out.cell 1
  have q2 := KN6.out.cell 2
  have q3 := KN6.out.cell 3
  have q4 := KN6.out.cell 4
  have q5 := KN6.out.cell 5
  simp at q0 q1 q2 q3 q4 q5
  go_wp2
  go_ret2
  refine .inl ⟨HM.out, _, rfl, ?_, B6.out⟩
  have he : L6 = En.enc ⟨1, 0, 0, key, v, false⟩ := by rw [e6.out, e5.out, e4.out, e3.out, e2.out]; rfl
  rw [← he]
  exact O6.out
set_option maxRecDepth 100000 in
set_option maxHeartbeats 1600000 in
theorem renc_2_false {w : World} {A : Option Addr} {c : Nat} (key : ByteArray) (hm : En.may ⟨2, 0, 0, key, [], false⟩) (hr : BReads w w.heap.size A ([] : List UInt8)) :
    Calls Try.prog 19 #[.agg (En.cells ⟨2, 0, 0, key, [], false⟩ A c)] w (EncPost w ⟨2, 0, 0, key, [], false⟩) := by
  have HC := Lib.hid (En.chk_ok hm)
  have HM := Lib.hid hm
  have hbd := En.may_bounds hm
  simp only at hbd
  have a5 := Lib.hid (str_length key)
  clear hm
  have BA := Lib.hid ((Below.refl w.heap.size w).alloc (Nat.le_refl _) (.cells #[.int .i64 2, .int .i64 0, .int .i64 0, .string key, .slice A 0 c, .bool false] 25))
  have KN := Lib.hid (Blk.new w 25 #[.int .i64 2, .int .i64 0, .int .i64 0, .string key, .slice A 0 c, .bool false])
  unfold En.cells
  simp only
  have HR := Lib.hid ((hr.below BA.out).more BA.out.size)
  have H00 := Lib.hid hr
  clear hr
  go_enter Try.func19, Try.ntmps19
  go_wp2_with fail
  obtain ⟨W, hW⟩ : ∃ x, x = w.alloc (.cells #[.int .i64 2, .int .i64 0, .int .i64 0, .string key, .slice A 0 c, .bool false] 25) := ⟨_, rfl⟩
  obtain ⟨T, hT⟩ : ∃ x, x = w.heap.size := ⟨_, rfl⟩
  have HT := Lib.hid hT
  rw [← hW, ← hT] at KN
  rw [← hW] at BA HR
  rw [← hW, ← hT]
  clear hW hT
  refine (rcheck_any ⟨2, 0, 0, key, [], false⟩ (by simp <;> omega) (by simp <;> omega)).mono ?_
  rintro e w1 ⟨rfl, hb⟩
  rw [HC.out]
  have KN1 := Lib.hid (KN.out.below' hb)
  have HR1 := Lib.hid ((HR.out.below hb).more hb.size)
  have B1 := Lib.hid (BA.out.trans (hb.mono BA.out.size))
  clear hb KN HR BA
  have x0 := KN1.out.cell 0
  simp at x0
  have hT1 := KN1.out.lt
  go_wp2_with fail
  have KN2 := Lib.hid (KN1.out.alloc (.cells #[.int .u8 2] 5))
  have O2 := Lib.hid (owns_less (byte_owns w1 2 (n := 2) (by decide)) B1.out.size)
  have B2 := Lib.hid (B1.out.alloc B1.out.size (.cells #[.int .u8 2] 5))
  have hX := (Below.refl w1.heap.size w1).alloc (Nat.le_refl _) (.cells #[.int .u8 2] 5)
  have HR2 := Lib.hid ((HR1.out.below hX).more hX.size)
  clear hX
  obtain ⟨w2, hw2⟩ : ∃ x, x = w1.alloc (.cells #[.int .u8 2] 5) := ⟨_, rfl⟩
  obtain ⟨v2, hv2⟩ : ∃ x, x = Value.slice (some ⟨w1.heap.size, 0, none⟩) 1 1 := ⟨_, rfl⟩
  rw [← hw2] at KN2 B2 HR2
  rw [← hw2, ← hv2] at O2
  rw [← hw2, ← hv2]
  obtain ⟨L2, hL2⟩ : ∃ L : List UInt8, L = [2] := ⟨_, rfl⟩
  rw [← hL2] at O2
  have e2 := Lib.hid hL2
  have l2 : L2.length ≤ 1 := by rw [hL2]; simp
  clear hw2 hv2 hL2 x0 hT1 KN1 HR1 B1
  have q0 := KN2.out.cell 0
  have q1 := KN2.out.cell 1
  have q2 := KN2.out.cell 2
  have q3 := KN2.out.cell 3
  have q4 := KN2.out.cell 4
  have q5 := KN2.out.cell 5
  simp at q0 q1 q2 q3 q4 q5
  go_wp2_with fail
  refine (keyed_any 2).mono ?_
  rintro e wz ⟨rfl, rfl⟩
  rw [show keyedF 2 = true from rfl]
  go_wp2_with fail
  refine (rshort_any (key.size : Int) O2.out B2.out.size (by omega) (by omega) (by omega)).mono ?_
  rintro e w3 h
  obtain ⟨v3, rfl, ho, hg, _⟩ := h.out
  clear h
  obtain ⟨L3, hL3⟩ : ∃ L : List UInt8, L = L2 ++ intF key.size := ⟨_, rfl⟩
  rw [← hL3] at ho
  have e3 := Lib.hid hL3
  have l3 : L3.length ≤ 11 := by rw [hL3]; have := intF_length (n := (key.size : Int)) (by omega) (by omega); simp only [List.length_append]; omega
  have B3 := Lib.hid (below_grown B2.out O2.out hg)
  have G3 := Lib.hid (show Keeps (fun k => some k = v2.ownBlock) w2 w3 from Keeps.of_grown hg)
  have KN3 := Lib.hid (Rws.blk (w0 := w) O2.out KN2.out (by decide) G3.out)
  have HR3 := Lib.hid (show BReads w3 w3.heap.size A ([] : List UInt8) from (H00.out.below B3.out).more B3.out.size)
  have O3 := Lib.hid ho
  clear ho hg hL3 KN2 HR2 G3 O2 B2
  clear q0 q1 q2 q3 q4 q5
  have q0 := KN3.out.cell 0
  have q1 := KN3.out.cell 1
  have q2 := KN3.out.cell 2
  have q3 := KN3.out.cell 3
  have q4 := KN3.out.cell 4
  have q5 := KN3.out.cell 5
  simp at q0 q1 q2 q3 q4 q5
  go_wp2_with (at_builtin; refine Stop.of ?_)
  have ha5 := a5.out
  refine ⟨append_bytes O3.out (str_src key) (by omega) B3.out.size rfl rfl rfl rfl ?_⟩
  intro v4 w4 ho hg _
  obtain ⟨L4, hL4⟩ : ∃ L : List UInt8, L = L3 ++ key.data.toList := ⟨_, rfl⟩
  rw [← hL4] at ho
  have e4 := Lib.hid hL4
  have l4 : L4.length ≤ 266 := by rw [hL4]; simp only [List.length_append]; omega
  have B4 := Lib.hid (below_grown B3.out O3.out hg)
  have G4 := Lib.hid (show Keeps (fun k => some k = v3.ownBlock) w3 w4 from Keeps.of_grown hg)
  have KN4 := Lib.hid (Rws.blk (w0 := w) O3.out KN3.out (by decide) G4.out)
  have HR4 := Lib.hid (show BReads w4 w4.heap.size A ([] : List UInt8) from (H00.out.below B4.out).more B4.out.size)
  have O4 := Lib.hid ho
  clear ho hg hL4 KN3 HR3 G4 O3 B3
  clear ha5
  clear q0 q1 q2 q3 q4 q5
  have q0 := KN4.out.cell 0
  have q1 := KN4.out.cell 1
  have q2 := KN4.out.cell 2
  have q3 := KN4.out.cell 3
  have q4 := KN4.out.cell 4
  have q5 := KN4.out.cell 5
  simp at q0 q1 q2 q3 q4 q5
  go_wp2_with fail
  refine (stamped_any 2).mono ?_
  rintro e wz ⟨rfl, rfl⟩
  rw [show stampedF 2 = false from rfl]
  go_wp2_with fail
  refine (counted_any 2).mono ?_
  rintro e wz ⟨rfl, rfl⟩
  rw [show countedF 2 = false from rfl]
  go_wp2_with fail
  refine (valued_any 2).mono ?_
  rintro e wz ⟨rfl, rfl⟩
  rw [show valuedF 2 = false from rfl]
  go_wp2
  go_ret2
  refine .inl ⟨HM.out, _, rfl, ?_, B4.out⟩
  have he : L4 = En.enc ⟨2, 0, 0, key, [], false⟩ := by rw [e4.out, e3.out, e2.out]; rfl
  rw [← he]
  exact O4.out
set_option maxRecDepth 100000 in
set_option maxHeartbeats 1600000 in
theorem renc_3_false {w : World} {A : Option Addr} {c : Nat} (s n : Int) (hm : En.may ⟨3, s, n, ⟨#[]⟩, [], false⟩) (hr : BReads w w.heap.size A ([] : List UInt8)) :
    Calls Try.prog 19 #[.agg (En.cells ⟨3, s, n, ⟨#[]⟩, [], false⟩ A c)] w (EncPost w ⟨3, s, n, ⟨#[]⟩, [], false⟩) := by
  have HC := Lib.hid (En.chk_ok hm)
  have HM := Lib.hid hm
  have hbd := En.may_bounds hm
  simp only at hbd
  have a5 := Lib.hid (str_length ⟨#[]⟩)
  clear hm
  have BA := Lib.hid ((Below.refl w.heap.size w).alloc (Nat.le_refl _) (.cells #[.int .i64 3, .int .i64 s, .int .i64 n, .string ⟨#[]⟩, .slice A 0 c, .bool false] 25))
  have KN := Lib.hid (Blk.new w 25 #[.int .i64 3, .int .i64 s, .int .i64 n, .string ⟨#[]⟩, .slice A 0 c, .bool false])
  unfold En.cells
  simp only
  have HR := Lib.hid ((hr.below BA.out).more BA.out.size)
  have H00 := Lib.hid hr
  clear hr
  go_enter Try.func19, Try.ntmps19
  go_wp2_with fail
  obtain ⟨W, hW⟩ : ∃ x, x = w.alloc (.cells #[.int .i64 3, .int .i64 s, .int .i64 n, .string ⟨#[]⟩, .slice A 0 c, .bool false] 25) := ⟨_, rfl⟩
  obtain ⟨T, hT⟩ : ∃ x, x = w.heap.size := ⟨_, rfl⟩
  have HT := Lib.hid hT
  rw [← hW, ← hT] at KN
  rw [← hW] at BA HR
  rw [← hW, ← hT]
  clear hW hT
  refine (rcheck_any ⟨3, s, n, ⟨#[]⟩, [], false⟩ (by simp <;> omega) (by simp <;> omega)).mono ?_
  rintro e w1 ⟨rfl, hb⟩
  rw [HC.out]
  have KN1 := Lib.hid (KN.out.below' hb)
  have HR1 := Lib.hid ((HR.out.below hb).more hb.size)
  have B1 := Lib.hid (BA.out.trans (hb.mono BA.out.size))
  clear hb KN HR BA
  have x0 := KN1.out.cell 0
  simp at x0
  have hT1 := KN1.out.lt
  go_wp2_with fail
  have KN2 := Lib.hid (KN1.out.alloc (.cells #[.int .u8 3] 5))
  have O2 := Lib.hid (owns_less (byte_owns w1 3 (n := 3) (by decide)) B1.out.size)
  have B2 := Lib.hid (B1.out.alloc B1.out.size (.cells #[.int .u8 3] 5))
  have hX := (Below.refl w1.heap.size w1).alloc (Nat.le_refl _) (.cells #[.int .u8 3] 5)
  have HR2 := Lib.hid ((HR1.out.below hX).more hX.size)
  clear hX
  obtain ⟨w2, hw2⟩ : ∃ x, x = w1.alloc (.cells #[.int .u8 3] 5) := ⟨_, rfl⟩
  obtain ⟨v2, hv2⟩ : ∃ x, x = Value.slice (some ⟨w1.heap.size, 0, none⟩) 1 1 := ⟨_, rfl⟩
  rw [← hw2] at KN2 B2 HR2
  rw [← hw2, ← hv2] at O2
  rw [← hw2, ← hv2]
  obtain ⟨L2, hL2⟩ : ∃ L : List UInt8, L = [3] := ⟨_, rfl⟩
  rw [← hL2] at O2
  have e2 := Lib.hid hL2
  have l2 : L2.length ≤ 1 := by rw [hL2]; simp
  clear hw2 hv2 hL2 x0 hT1 KN1 HR1 B1
  have q0 := KN2.out.cell 0
  have q1 := KN2.out.cell 1
  have q2 := KN2.out.cell 2
  have q3 := KN2.out.cell 3
  have q4 := KN2.out.cell 4
  have q5 := KN2.out.cell 5
  simp at q0 q1 q2 q3 q4 q5
  go_wp2_with fail
  refine (keyed_any 3).mono ?_
  rintro e wz ⟨rfl, rfl⟩
  rw [show keyedF 3 = false from rfl]
  clear q0 q1 q2 q3 q4 q5
  have q0 := KN2.out.cell 0
  have q1 := KN2.out.cell 1
  have q2 := KN2.out.cell 2
  have q3 := KN2.out.cell 3
  have q4 := KN2.out.cell 4
  have q5 := KN2.out.cell 5
  simp at q0 q1 q2 q3 q4 q5
  go_wp2_with fail
  refine (stamped_any 3).mono ?_
  rintro e wz ⟨rfl, rfl⟩
  rw [show stampedF 3 = true from rfl]
  go_wp2_with fail
  refine (rshort_any s O2.out B2.out.size (by omega) (by omega) (by omega)).mono ?_
  rintro e w3 h
  obtain ⟨v3, rfl, ho, hg, _⟩ := h.out
  clear h
  obtain ⟨L3, hL3⟩ : ∃ L : List UInt8, L = L2 ++ intF s := ⟨_, rfl⟩
  rw [← hL3] at ho
  have e3 := Lib.hid hL3
  have l3 : L3.length ≤ 11 := by rw [hL3]; have := intF_length (n := s) (by omega) (by omega); simp only [List.length_append]; omega
  have B3 := Lib.hid (below_grown B2.out O2.out hg)
  have G3 := Lib.hid (show Keeps (fun k => some k = v2.ownBlock) w2 w3 from Keeps.of_grown hg)
  have KN3 := Lib.hid (Rws.blk (w0 := w) O2.out KN2.out (by decide) G3.out)
  have HR3 := Lib.hid (show BReads w3 w3.heap.size A ([] : List UInt8) from (H00.out.below B3.out).more B3.out.size)
  have O3 := Lib.hid ho
  clear ho hg hL3 KN2 HR2 G3 O2 B2
  clear q0 q1 q2 q3 q4 q5
  have q0 := KN3.out.cell 0
  have q1 := KN3.out.cell 1
  have q2 := KN3.out.cell 2
  have q3 := KN3.out.cell 3
  have q4 := KN3.out.cell 4
  have q5 := KN3.out.cell 5
  simp at q0 q1 q2 q3 q4 q5
  go_wp2_with fail
  refine (counted_any 3).mono ?_
  rintro e wz ⟨rfl, rfl⟩
  rw [show countedF 3 = true from rfl]
  go_wp2_with fail
  refine (rshort_any n O3.out B3.out.size (by omega) (by omega) (by omega)).mono ?_
  rintro e w4 h
  obtain ⟨v4, rfl, ho, hg, _⟩ := h.out
  clear h
  obtain ⟨L4, hL4⟩ : ∃ L : List UInt8, L = L3 ++ intF n := ⟨_, rfl⟩
  rw [← hL4] at ho
  have e4 := Lib.hid hL4
  have l4 : L4.length ≤ 21 := by rw [hL4]; have := intF_length (n := n) (by omega) (by omega); simp only [List.length_append]; omega
  have B4 := Lib.hid (below_grown B3.out O3.out hg)
  have G4 := Lib.hid (show Keeps (fun k => some k = v3.ownBlock) w3 w4 from Keeps.of_grown hg)
  have KN4 := Lib.hid (Rws.blk (w0 := w) O3.out KN3.out (by decide) G4.out)
  have HR4 := Lib.hid (show BReads w4 w4.heap.size A ([] : List UInt8) from (H00.out.below B4.out).more B4.out.size)
  have O4 := Lib.hid ho
  clear ho hg hL4 KN3 HR3 G4 O3 B3
  clear q0 q1 q2 q3 q4 q5
  have q0 := KN4.out.cell 0
  have q1 := KN4.out.cell 1
  have q2 := KN4.out.cell 2
  have q3 := KN4.out.cell 3
  have q4 := KN4.out.cell 4
  have q5 := KN4.out.cell 5
  simp at q0 q1 q2 q3 q4 q5
  go_wp2_with fail
  refine (valued_any 3).mono ?_
  rintro e wz ⟨rfl, rfl⟩
  rw [show valuedF 3 = false from rfl]
  go_wp2
  go_ret2
  refine .inl ⟨HM.out, _, rfl, ?_, B4.out⟩
  have he : L4 = En.enc ⟨3, s, n, ⟨#[]⟩, [], false⟩ := by rw [e4.out, e3.out, e2.out]; rfl
  rw [← he]
  exact O4.out
set_option maxRecDepth 100000 in
set_option maxHeartbeats 1600000 in
theorem renc_4_false {w : World} {A : Option Addr} {c : Nat} (s n : Int) (hm : En.may ⟨4, s, n, ⟨#[]⟩, [], false⟩) (hr : BReads w w.heap.size A ([] : List UInt8)) :
    Calls Try.prog 19 #[.agg (En.cells ⟨4, s, n, ⟨#[]⟩, [], false⟩ A c)] w (EncPost w ⟨4, s, n, ⟨#[]⟩, [], false⟩) := by
  have HC := Lib.hid (En.chk_ok hm)
  have HM := Lib.hid hm
  have hbd := En.may_bounds hm
  simp only at hbd
  have a5 := Lib.hid (str_length ⟨#[]⟩)
  clear hm
  have BA := Lib.hid ((Below.refl w.heap.size w).alloc (Nat.le_refl _) (.cells #[.int .i64 4, .int .i64 s, .int .i64 n, .string ⟨#[]⟩, .slice A 0 c, .bool false] 25))
  have KN := Lib.hid (Blk.new w 25 #[.int .i64 4, .int .i64 s, .int .i64 n, .string ⟨#[]⟩, .slice A 0 c, .bool false])
  unfold En.cells
  simp only
  have HR := Lib.hid ((hr.below BA.out).more BA.out.size)
  have H00 := Lib.hid hr
  clear hr
  go_enter Try.func19, Try.ntmps19
  go_wp2_with fail
  obtain ⟨W, hW⟩ : ∃ x, x = w.alloc (.cells #[.int .i64 4, .int .i64 s, .int .i64 n, .string ⟨#[]⟩, .slice A 0 c, .bool false] 25) := ⟨_, rfl⟩
  obtain ⟨T, hT⟩ : ∃ x, x = w.heap.size := ⟨_, rfl⟩
  have HT := Lib.hid hT
  rw [← hW, ← hT] at KN
  rw [← hW] at BA HR
  rw [← hW, ← hT]
  clear hW hT
  refine (rcheck_any ⟨4, s, n, ⟨#[]⟩, [], false⟩ (by simp <;> omega) (by simp <;> omega)).mono ?_
  rintro e w1 ⟨rfl, hb⟩
  rw [HC.out]
  have KN1 := Lib.hid (KN.out.below' hb)
  have HR1 := Lib.hid ((HR.out.below hb).more hb.size)
  have B1 := Lib.hid (BA.out.trans (hb.mono BA.out.size))
  clear hb KN HR BA
  have x0 := KN1.out.cell 0
  simp at x0
  have hT1 := KN1.out.lt
  go_wp2_with fail
  have KN2 := Lib.hid (KN1.out.alloc (.cells #[.int .u8 4] 5))
  have O2 := Lib.hid (owns_less (byte_owns w1 4 (n := 4) (by decide)) B1.out.size)
  have B2 := Lib.hid (B1.out.alloc B1.out.size (.cells #[.int .u8 4] 5))
  have hX := (Below.refl w1.heap.size w1).alloc (Nat.le_refl _) (.cells #[.int .u8 4] 5)
  have HR2 := Lib.hid ((HR1.out.below hX).more hX.size)
  clear hX
  obtain ⟨w2, hw2⟩ : ∃ x, x = w1.alloc (.cells #[.int .u8 4] 5) := ⟨_, rfl⟩
  obtain ⟨v2, hv2⟩ : ∃ x, x = Value.slice (some ⟨w1.heap.size, 0, none⟩) 1 1 := ⟨_, rfl⟩
  rw [← hw2] at KN2 B2 HR2
  rw [← hw2, ← hv2] at O2
  rw [← hw2, ← hv2]
  obtain ⟨L2, hL2⟩ : ∃ L : List UInt8, L = [4] := ⟨_, rfl⟩
  rw [← hL2] at O2
  have e2 := Lib.hid hL2
  have l2 : L2.length ≤ 1 := by rw [hL2]; simp
  clear hw2 hv2 hL2 x0 hT1 KN1 HR1 B1
  have q0 := KN2.out.cell 0
  have q1 := KN2.out.cell 1
  have q2 := KN2.out.cell 2
  have q3 := KN2.out.cell 3
  have q4 := KN2.out.cell 4
  have q5 := KN2.out.cell 5
  simp at q0 q1 q2 q3 q4 q5
  go_wp2_with fail
  refine (keyed_any 4).mono ?_
  rintro e wz ⟨rfl, rfl⟩
  rw [show keyedF 4 = false from rfl]
  clear q0 q1 q2 q3 q4 q5
  have q0 := KN2.out.cell 0
  have q1 := KN2.out.cell 1
  have q2 := KN2.out.cell 2
  have q3 := KN2.out.cell 3
  have q4 := KN2.out.cell 4
  have q5 := KN2.out.cell 5
  simp at q0 q1 q2 q3 q4 q5
  go_wp2_with fail
  refine (stamped_any 4).mono ?_
  rintro e wz ⟨rfl, rfl⟩
  rw [show stampedF 4 = true from rfl]
  go_wp2_with fail
  refine (rshort_any s O2.out B2.out.size (by omega) (by omega) (by omega)).mono ?_
  rintro e w3 h
  obtain ⟨v3, rfl, ho, hg, _⟩ := h.out
  clear h
  obtain ⟨L3, hL3⟩ : ∃ L : List UInt8, L = L2 ++ intF s := ⟨_, rfl⟩
  rw [← hL3] at ho
  have e3 := Lib.hid hL3
  have l3 : L3.length ≤ 11 := by rw [hL3]; have := intF_length (n := s) (by omega) (by omega); simp only [List.length_append]; omega
  have B3 := Lib.hid (below_grown B2.out O2.out hg)
  have G3 := Lib.hid (show Keeps (fun k => some k = v2.ownBlock) w2 w3 from Keeps.of_grown hg)
  have KN3 := Lib.hid (Rws.blk (w0 := w) O2.out KN2.out (by decide) G3.out)
  have HR3 := Lib.hid (show BReads w3 w3.heap.size A ([] : List UInt8) from (H00.out.below B3.out).more B3.out.size)
  have O3 := Lib.hid ho
  clear ho hg hL3 KN2 HR2 G3 O2 B2
  clear q0 q1 q2 q3 q4 q5
  have q0 := KN3.out.cell 0
  have q1 := KN3.out.cell 1
  have q2 := KN3.out.cell 2
  have q3 := KN3.out.cell 3
  have q4 := KN3.out.cell 4
  have q5 := KN3.out.cell 5
  simp at q0 q1 q2 q3 q4 q5
  go_wp2_with fail
  refine (counted_any 4).mono ?_
  rintro e wz ⟨rfl, rfl⟩
  rw [show countedF 4 = true from rfl]
  go_wp2_with fail
  refine (rshort_any n O3.out B3.out.size (by omega) (by omega) (by omega)).mono ?_
  rintro e w4 h
  obtain ⟨v4, rfl, ho, hg, _⟩ := h.out
  clear h
  obtain ⟨L4, hL4⟩ : ∃ L : List UInt8, L = L3 ++ intF n := ⟨_, rfl⟩
  rw [← hL4] at ho
  have e4 := Lib.hid hL4
  have l4 : L4.length ≤ 21 := by rw [hL4]; have := intF_length (n := n) (by omega) (by omega); simp only [List.length_append]; omega
  have B4 := Lib.hid (below_grown B3.out O3.out hg)
  have G4 := Lib.hid (show Keeps (fun k => some k = v3.ownBlock) w3 w4 from Keeps.of_grown hg)
  have KN4 := Lib.hid (Rws.blk (w0 := w) O3.out KN3.out (by decide) G4.out)
  have HR4 := Lib.hid (show BReads w4 w4.heap.size A ([] : List UInt8) from (H00.out.below B4.out).more B4.out.size)
  have O4 := Lib.hid ho
  clear ho hg hL4 KN3 HR3 G4 O3 B3
  clear q0 q1 q2 q3 q4 q5
  have q0 := KN4.out.cell 0
  have q1 := KN4.out.cell 1
  have q2 := KN4.out.cell 2
  have q3 := KN4.out.cell 3
  have q4 := KN4.out.cell 4
  have q5 := KN4.out.cell 5
  simp at q0 q1 q2 q3 q4 q5
  go_wp2_with fail
  refine (valued_any 4).mono ?_
  rintro e wz ⟨rfl, rfl⟩
  rw [show valuedF 4 = false from rfl]
  go_wp2
  go_ret2
  refine .inl ⟨HM.out, _, rfl, ?_, B4.out⟩
  have he : L4 = En.enc ⟨4, s, n, ⟨#[]⟩, [], false⟩ := by rw [e4.out, e3.out, e2.out]; rfl
  rw [← he]
  exact O4.out
set_option maxRecDepth 100000 in
set_option maxHeartbeats 1600000 in
theorem renc_5_false {w : World} {A : Option Addr} {c : Nat} (s : Int) (key : ByteArray) (v : List UInt8) (hm : En.may ⟨5, s, 0, key, v, false⟩) (hr : BReads w w.heap.size A v) :
    Calls Try.prog 19 #[.agg (En.cells ⟨5, s, 0, key, v, false⟩ A c)] w (EncPost w ⟨5, s, 0, key, v, false⟩) := by
  have HC := Lib.hid (En.chk_ok hm)
  have HM := Lib.hid hm
  have hbd := En.may_bounds hm
  simp only at hbd
  have a5 := Lib.hid (str_length key)
  clear hm
  have BA := Lib.hid ((Below.refl w.heap.size w).alloc (Nat.le_refl _) (.cells #[.int .i64 5, .int .i64 s, .int .i64 0, .string key, .slice A v.length c, .bool false] 25))
  have KN := Lib.hid (Blk.new w 25 #[.int .i64 5, .int .i64 s, .int .i64 0, .string key, .slice A v.length c, .bool false])
  unfold En.cells
  simp only
  have HR := Lib.hid ((hr.below BA.out).more BA.out.size)
  have H00 := Lib.hid hr
  clear hr
  go_enter Try.func19, Try.ntmps19
  go_wp2_with fail
  obtain ⟨W, hW⟩ : ∃ x, x = w.alloc (.cells #[.int .i64 5, .int .i64 s, .int .i64 0, .string key, .slice A v.length c, .bool false] 25) := ⟨_, rfl⟩
  obtain ⟨T, hT⟩ : ∃ x, x = w.heap.size := ⟨_, rfl⟩
  have HT := Lib.hid hT
  rw [← hW, ← hT] at KN
  rw [← hW] at BA HR
  rw [← hW, ← hT]
  clear hW hT
  refine (rcheck_any ⟨5, s, 0, key, v, false⟩ (by simp <;> omega) (by simp <;> omega)).mono ?_
  rintro e w1 ⟨rfl, hb⟩
  rw [HC.out]
  have KN1 := Lib.hid (KN.out.below' hb)
  have HR1 := Lib.hid ((HR.out.below hb).more hb.size)
  have B1 := Lib.hid (BA.out.trans (hb.mono BA.out.size))
  clear hb KN HR BA
  have x0 := KN1.out.cell 0
  simp at x0
  have hT1 := KN1.out.lt
  go_wp2_with fail
  have KN2 := Lib.hid (KN1.out.alloc (.cells #[.int .u8 5] 5))
  have O2 := Lib.hid (owns_less (byte_owns w1 5 (n := 5) (by decide)) B1.out.size)
  have B2 := Lib.hid (B1.out.alloc B1.out.size (.cells #[.int .u8 5] 5))
  have hX := (Below.refl w1.heap.size w1).alloc (Nat.le_refl _) (.cells #[.int .u8 5] 5)
  have HR2 := Lib.hid ((HR1.out.below hX).more hX.size)
  clear hX
  obtain ⟨w2, hw2⟩ : ∃ x, x = w1.alloc (.cells #[.int .u8 5] 5) := ⟨_, rfl⟩
  obtain ⟨v2, hv2⟩ : ∃ x, x = Value.slice (some ⟨w1.heap.size, 0, none⟩) 1 1 := ⟨_, rfl⟩
  rw [← hw2] at KN2 B2 HR2
  rw [← hw2, ← hv2] at O2
  rw [← hw2, ← hv2]
  obtain ⟨L2, hL2⟩ : ∃ L : List UInt8, L = [5] := ⟨_, rfl⟩
  rw [← hL2] at O2
  have e2 := Lib.hid hL2
  have l2 : L2.length ≤ 1 := by rw [hL2]; simp
  clear hw2 hv2 hL2 x0 hT1 KN1 HR1 B1
  have q0 := KN2.out.cell 0
  have q1 := KN2.out.cell 1
  have q2 := KN2.out.cell 2
  have q3 := KN2.out.cell 3
  have q4 := KN2.out.cell 4
  have q5 := KN2.out.cell 5
  simp at q0 q1 q2 q3 q4 q5
  go_wp2_with fail
  refine (keyed_any 5).mono ?_
  rintro e wz ⟨rfl, rfl⟩
  rw [show keyedF 5 = true from rfl]
  go_wp2_with fail
  refine (rshort_any (key.size : Int) O2.out B2.out.size (by omega) (by omega) (by omega)).mono ?_
  rintro e w3 h
  obtain ⟨v3, rfl, ho, hg, _⟩ := h.out
  clear h
  obtain ⟨L3, hL3⟩ : ∃ L : List UInt8, L = L2 ++ intF key.size := ⟨_, rfl⟩
  rw [← hL3] at ho
  have e3 := Lib.hid hL3
  have l3 : L3.length ≤ 11 := by rw [hL3]; have := intF_length (n := (key.size : Int)) (by omega) (by omega); simp only [List.length_append]; omega
  have B3 := Lib.hid (below_grown B2.out O2.out hg)
  have G3 := Lib.hid (show Keeps (fun k => some k = v2.ownBlock) w2 w3 from Keeps.of_grown hg)
  have KN3 := Lib.hid (Rws.blk (w0 := w) O2.out KN2.out (by decide) G3.out)
  have HR3 := Lib.hid (show BReads w3 w3.heap.size A v from (H00.out.below B3.out).more B3.out.size)
  have O3 := Lib.hid ho
  clear ho hg hL3 KN2 HR2 G3 O2 B2
  clear q0 q1 q2 q3 q4 q5
  have q0 := KN3.out.cell 0
  have q1 := KN3.out.cell 1
  have q2 := KN3.out.cell 2
  have q3 := KN3.out.cell 3
  have q4 := KN3.out.cell 4
  have q5 := KN3.out.cell 5
  simp at q0 q1 q2 q3 q4 q5
  go_wp2_with (at_builtin; refine Stop.of ?_)
  have ha5 := a5.out
  refine ⟨append_bytes O3.out (str_src key) (by omega) B3.out.size rfl rfl rfl rfl ?_⟩
  intro v4 w4 ho hg _
  obtain ⟨L4, hL4⟩ : ∃ L : List UInt8, L = L3 ++ key.data.toList := ⟨_, rfl⟩
  rw [← hL4] at ho
  have e4 := Lib.hid hL4
  have l4 : L4.length ≤ 266 := by rw [hL4]; simp only [List.length_append]; omega
  have B4 := Lib.hid (below_grown B3.out O3.out hg)
  have G4 := Lib.hid (show Keeps (fun k => some k = v3.ownBlock) w3 w4 from Keeps.of_grown hg)
  have KN4 := Lib.hid (Rws.blk (w0 := w) O3.out KN3.out (by decide) G4.out)
  have HR4 := Lib.hid (show BReads w4 w4.heap.size A v from (H00.out.below B4.out).more B4.out.size)
  have O4 := Lib.hid ho
  clear ho hg hL4 KN3 HR3 G4 O3 B3
  clear ha5
  clear q0 q1 q2 q3 q4 q5
  have q0 := KN4.out.cell 0
  have q1 := KN4.out.cell 1
  have q2 := KN4.out.cell 2
  have q3 := KN4.out.cell 3
  have q4 := KN4.out.cell 4
  have q5 := KN4.out.cell 5
  simp at q0 q1 q2 q3 q4 q5
  go_wp2_with fail
  refine (stamped_any 5).mono ?_
  rintro e wz ⟨rfl, rfl⟩
  rw [show stampedF 5 = true from rfl]
  go_wp2_with fail
  refine (rshort_any s O4.out B4.out.size (by omega) (by omega) (by omega)).mono ?_
  rintro e w5 h
  obtain ⟨v5, rfl, ho, hg, _⟩ := h.out
  clear h
  obtain ⟨L5, hL5⟩ : ∃ L : List UInt8, L = L4 ++ intF s := ⟨_, rfl⟩
  rw [← hL5] at ho
  have e5 := Lib.hid hL5
  have l5 : L5.length ≤ 276 := by rw [hL5]; have := intF_length (n := s) (by omega) (by omega); simp only [List.length_append]; omega
  have B5 := Lib.hid (below_grown B4.out O4.out hg)
  have G5 := Lib.hid (show Keeps (fun k => some k = v4.ownBlock) w4 w5 from Keeps.of_grown hg)
  have KN5 := Lib.hid (Rws.blk (w0 := w) O4.out KN4.out (by decide) G5.out)
  have HR5 := Lib.hid (show BReads w5 w5.heap.size A v from (H00.out.below B5.out).more B5.out.size)
  have O5 := Lib.hid ho
  clear ho hg hL5 KN4 HR4 G5 O4 B4
  clear q0 q1 q2 q3 q4 q5
  have q0 := KN5.out.cell 0
  have q1 := KN5.out.cell 1
  have q2 := KN5.out.cell 2
  have q3 := KN5.out.cell 3
  have q4 := KN5.out.cell 4
  have q5 := KN5.out.cell 5
  simp at q0 q1 q2 q3 q4 q5
  go_wp2_with fail
  refine (counted_any 5).mono ?_
  rintro e wz ⟨rfl, rfl⟩
  rw [show countedF 5 = false from rfl]
  go_wp2_with (at_builtin; refine Stop.of ?_)
  have KNa := Lib.hid (KN5.out.alloc (.cells #[.int .u8 0] 5))
  have Oa := Lib.hid (O5.out.alloc (.cells #[.int .u8 0] 5))
  have Ba := Lib.hid (B5.out.alloc B5.out.size (.cells #[.int .u8 0] 5))
  refine ⟨append_bytes (m := [0]) Oa.out (byte_src w5 0 (by decide)) (by simp only [List.length_cons, List.length_nil]; omega) Ba.out.size rfl rfl rfl rfl ?_⟩
  intro v6 w6 ho hg _
  obtain ⟨L6, hL6⟩ : ∃ L : List UInt8, L = L5 ++ [0] := ⟨_, rfl⟩
  rw [← hL6] at ho
  have e6 := Lib.hid hL6
  have l6 : L6.length ≤ 277 := by rw [hL6]; simp only [List.length_append, List.length_cons, List.length_nil]; omega
  have B6 := Lib.hid (below_grown Ba.out Oa.out hg)
  have G6 := Lib.hid (show Keeps (fun k => some k = v5.ownBlock) (w5.alloc (.cells #[.int .u8 0] 5)) w6 from Keeps.of_grown hg)
  have KN6 := Lib.hid (Rws.blk (w0 := w) Oa.out KNa.out (by decide) G6.out)
  have HR6 := Lib.hid (show BReads w6 w6.heap.size A v from (H00.out.below B6.out).more B6.out.size)
  have O6 := Lib.hid ho
  clear KNa Oa Ba ho hg hL6 KN5 HR5 G6 O5 B5
  clear q0 q1 q2 q3 q4 q5
  have q0 := KN6.out.cell 0
  have q1 := KN6.out.cell 1
  have q2 := KN6.out.cell 2
  have q3 := KN6.out.cell 3
  have q4 := KN6.out.cell 4
  have q5 := KN6.out.cell 5
  simp at q0 q1 q2 q3 q4 q5
  go_wp2_with fail
  refine (valued_any 5).mono ?_
  rintro e wz ⟨rfl, rfl⟩
  rw [show valuedF 5 = true from rfl]
  go_wp2_with fail
  refine (rshort_any (v.length : Int) O6.out B6.out.size (by omega) (by omega) (by omega)).mono ?_
  rintro e w7 h
  obtain ⟨v7, rfl, ho, hg, _⟩ := h.out
  clear h
  obtain ⟨L7, hL7⟩ : ∃ L : List UInt8, L = L6 ++ intF (v).length := ⟨_, rfl⟩
  rw [← hL7] at ho
  have e7 := Lib.hid hL7
  have l7 : L7.length ≤ 287 := by rw [hL7]; have := intF_length (n := (v.length : Int)) (by (try simp only [List.length_nil]); omega) (by (try simp only [List.length_nil]); omega); simp only [List.length_append]; omega
  have B7 := Lib.hid (below_grown B6.out O6.out hg)
  have G7 := Lib.hid (show Keeps (fun k => some k = v6.ownBlock) w6 w7 from Keeps.of_grown hg)
  have KN7 := Lib.hid (Rws.blk (w0 := w) O6.out KN6.out (by decide) G7.out)
  have HR7 := Lib.hid (show BReads w7 w7.heap.size A v from (H00.out.below B7.out).more B7.out.size)
  have O7 := Lib.hid ho
  clear ho hg hL7 KN6 HR6 G7 O6 B6
  clear q0 q1 q2 q3 q4 q5
  have q0 := KN7.out.cell 0
  have q1 := KN7.out.cell 1
  have q2 := KN7.out.cell 2
  have q3 := KN7.out.cell 3
  have q4 := KN7.out.cell 4
  have q5 := KN7.out.cell 5
  simp at q0 q1 q2 q3 q4 q5
  go_wp2_with (at_builtin; refine Stop.of ?_)
  refine ⟨append_bytes O7.out (BReads.src (l := v) HR7.out) (by (try simp only [List.length_nil]); omega) B7.out.size rfl rfl rfl rfl ?_⟩
  intro v8 w8 ho hg _
  obtain ⟨L8, hL8⟩ : ∃ L : List UInt8, L = L7 ++ v := ⟨_, rfl⟩
  rw [← hL8] at ho
  have e8 := Lib.hid hL8
  have l8 : L8.length ≤ 4383 := by rw [hL8]; simp only [List.length_append]; (try simp only [List.length_nil]); omega
  have B8 := Lib.hid (below_grown B7.out O7.out hg)
  have G8 := Lib.hid (show Keeps (fun k => some k = v7.ownBlock) w7 w8 from Keeps.of_grown hg)
  have KN8 := Lib.hid (Rws.blk (w0 := w) O7.out KN7.out (by decide) G8.out)
  have HR8 := Lib.hid (show BReads w8 w8.heap.size A v from (H00.out.below B8.out).more B8.out.size)
  have O8 := Lib.hid ho
  clear ho hg hL8 KN7 HR7 G8 O7 B7
  clear q0 q1 q2 q3 q4 q5
  have q0 := KN8.out.cell 0
  have q1 := KN8.out.cell 1
  have q2 := KN8.out.cell 2
  have q3 := KN8.out.cell 3
  have q4 := KN8.out.cell 4
  have q5 := KN8.out.cell 5
  simp at q0 q1 q2 q3 q4 q5
  go_wp2
  go_ret2
  refine .inl ⟨HM.out, _, rfl, ?_, B8.out⟩
  have he : L8 = En.enc ⟨5, s, 0, key, v, false⟩ := by rw [e8.out, e7.out, e6.out, e5.out, e4.out, e3.out, e2.out]; rfl
  rw [← he]
  exact O8.out
set_option maxRecDepth 100000 in
set_option maxHeartbeats 1600000 in
theorem renc_5_true {w : World} {A : Option Addr} {c : Nat} (s : Int) (key : ByteArray) (hm : En.may ⟨5, s, 0, key, [], true⟩) (hr : BReads w w.heap.size A ([] : List UInt8)) :
    Calls Try.prog 19 #[.agg (En.cells ⟨5, s, 0, key, [], true⟩ A c)] w (EncPost w ⟨5, s, 0, key, [], true⟩) := by
  have HC := Lib.hid (En.chk_ok hm)
  have HM := Lib.hid hm
  have hbd := En.may_bounds hm
  simp only at hbd
  have a5 := Lib.hid (str_length key)
  clear hm
  have BA := Lib.hid ((Below.refl w.heap.size w).alloc (Nat.le_refl _) (.cells #[.int .i64 5, .int .i64 s, .int .i64 0, .string key, .slice A 0 c, .bool true] 25))
  have KN := Lib.hid (Blk.new w 25 #[.int .i64 5, .int .i64 s, .int .i64 0, .string key, .slice A 0 c, .bool true])
  unfold En.cells
  simp only
  have HR := Lib.hid ((hr.below BA.out).more BA.out.size)
  have H00 := Lib.hid hr
  clear hr
  go_enter Try.func19, Try.ntmps19
  go_wp2_with fail
  obtain ⟨W, hW⟩ : ∃ x, x = w.alloc (.cells #[.int .i64 5, .int .i64 s, .int .i64 0, .string key, .slice A 0 c, .bool true] 25) := ⟨_, rfl⟩
  obtain ⟨T, hT⟩ : ∃ x, x = w.heap.size := ⟨_, rfl⟩
  have HT := Lib.hid hT
  rw [← hW, ← hT] at KN
  rw [← hW] at BA HR
  rw [← hW, ← hT]
  clear hW hT
  refine (rcheck_any ⟨5, s, 0, key, [], true⟩ (by simp <;> omega) (by simp <;> omega)).mono ?_
  rintro e w1 ⟨rfl, hb⟩
  rw [HC.out]
  have KN1 := Lib.hid (KN.out.below' hb)
  have HR1 := Lib.hid ((HR.out.below hb).more hb.size)
  have B1 := Lib.hid (BA.out.trans (hb.mono BA.out.size))
  clear hb KN HR BA
  have x0 := KN1.out.cell 0
  simp at x0
  have hT1 := KN1.out.lt
  go_wp2_with fail
  have KN2 := Lib.hid (KN1.out.alloc (.cells #[.int .u8 5] 5))
  have O2 := Lib.hid (owns_less (byte_owns w1 5 (n := 5) (by decide)) B1.out.size)
  have B2 := Lib.hid (B1.out.alloc B1.out.size (.cells #[.int .u8 5] 5))
  have hX := (Below.refl w1.heap.size w1).alloc (Nat.le_refl _) (.cells #[.int .u8 5] 5)
  have HR2 := Lib.hid ((HR1.out.below hX).more hX.size)
  clear hX
  obtain ⟨w2, hw2⟩ : ∃ x, x = w1.alloc (.cells #[.int .u8 5] 5) := ⟨_, rfl⟩
  obtain ⟨v2, hv2⟩ : ∃ x, x = Value.slice (some ⟨w1.heap.size, 0, none⟩) 1 1 := ⟨_, rfl⟩
  rw [← hw2] at KN2 B2 HR2
  rw [← hw2, ← hv2] at O2
  rw [← hw2, ← hv2]
  obtain ⟨L2, hL2⟩ : ∃ L : List UInt8, L = [5] := ⟨_, rfl⟩
  rw [← hL2] at O2
  have e2 := Lib.hid hL2
  have l2 : L2.length ≤ 1 := by rw [hL2]; simp
  clear hw2 hv2 hL2 x0 hT1 KN1 HR1 B1
  have q0 := KN2.out.cell 0
  have q1 := KN2.out.cell 1
  have q2 := KN2.out.cell 2
  have q3 := KN2.out.cell 3
  have q4 := KN2.out.cell 4
  have q5 := KN2.out.cell 5
  simp at q0 q1 q2 q3 q4 q5
  go_wp2_with fail
  refine (keyed_any 5).mono ?_
  rintro e wz ⟨rfl, rfl⟩
  rw [show keyedF 5 = true from rfl]
  go_wp2_with fail
  refine (rshort_any (key.size : Int) O2.out B2.out.size (by omega) (by omega) (by omega)).mono ?_
  rintro e w3 h
  obtain ⟨v3, rfl, ho, hg, _⟩ := h.out
  clear h
  obtain ⟨L3, hL3⟩ : ∃ L : List UInt8, L = L2 ++ intF key.size := ⟨_, rfl⟩
  rw [← hL3] at ho
  have e3 := Lib.hid hL3
  have l3 : L3.length ≤ 11 := by rw [hL3]; have := intF_length (n := (key.size : Int)) (by omega) (by omega); simp only [List.length_append]; omega
  have B3 := Lib.hid (below_grown B2.out O2.out hg)
  have G3 := Lib.hid (show Keeps (fun k => some k = v2.ownBlock) w2 w3 from Keeps.of_grown hg)
  have KN3 := Lib.hid (Rws.blk (w0 := w) O2.out KN2.out (by decide) G3.out)
  have HR3 := Lib.hid (show BReads w3 w3.heap.size A ([] : List UInt8) from (H00.out.below B3.out).more B3.out.size)
  have O3 := Lib.hid ho
  clear ho hg hL3 KN2 HR2 G3 O2 B2
  clear q0 q1 q2 q3 q4 q5
  have q0 := KN3.out.cell 0
  have q1 := KN3.out.cell 1
  have q2 := KN3.out.cell 2
  have q3 := KN3.out.cell 3
  have q4 := KN3.out.cell 4
  have q5 := KN3.out.cell 5
  simp at q0 q1 q2 q3 q4 q5
  go_wp2_with (at_builtin; refine Stop.of ?_)
  have ha5 := a5.out
  refine ⟨append_bytes O3.out (str_src key) (by omega) B3.out.size rfl rfl rfl rfl ?_⟩
  intro v4 w4 ho hg _
  obtain ⟨L4, hL4⟩ : ∃ L : List UInt8, L = L3 ++ key.data.toList := ⟨_, rfl⟩
  rw [← hL4] at ho
  have e4 := Lib.hid hL4
  have l4 : L4.length ≤ 266 := by rw [hL4]; simp only [List.length_append]; omega
  have B4 := Lib.hid (below_grown B3.out O3.out hg)
  have G4 := Lib.hid (show Keeps (fun k => some k = v3.ownBlock) w3 w4 from Keeps.of_grown hg)
  have KN4 := Lib.hid (Rws.blk (w0 := w) O3.out KN3.out (by decide) G4.out)
  have HR4 := Lib.hid (show BReads w4 w4.heap.size A ([] : List UInt8) from (H00.out.below B4.out).more B4.out.size)
  have O4 := Lib.hid ho
  clear ho hg hL4 KN3 HR3 G4 O3 B3
  clear ha5
  clear q0 q1 q2 q3 q4 q5
  have q0 := KN4.out.cell 0
  have q1 := KN4.out.cell 1
  have q2 := KN4.out.cell 2
  have q3 := KN4.out.cell 3
  have q4 := KN4.out.cell 4
  have q5 := KN4.out.cell 5
  simp at q0 q1 q2 q3 q4 q5
  go_wp2_with fail
  refine (stamped_any 5).mono ?_
  rintro e wz ⟨rfl, rfl⟩
  rw [show stampedF 5 = true from rfl]
  go_wp2_with fail
  refine (rshort_any s O4.out B4.out.size (by omega) (by omega) (by omega)).mono ?_
  rintro e w5 h
  obtain ⟨v5, rfl, ho, hg, _⟩ := h.out
  clear h
  obtain ⟨L5, hL5⟩ : ∃ L : List UInt8, L = L4 ++ intF s := ⟨_, rfl⟩
  rw [← hL5] at ho
  have e5 := Lib.hid hL5
  have l5 : L5.length ≤ 276 := by rw [hL5]; have := intF_length (n := s) (by omega) (by omega); simp only [List.length_append]; omega
  have B5 := Lib.hid (below_grown B4.out O4.out hg)
  have G5 := Lib.hid (show Keeps (fun k => some k = v4.ownBlock) w4 w5 from Keeps.of_grown hg)
  have KN5 := Lib.hid (Rws.blk (w0 := w) O4.out KN4.out (by decide) G5.out)
  have HR5 := Lib.hid (show BReads w5 w5.heap.size A ([] : List UInt8) from (H00.out.below B5.out).more B5.out.size)
  have O5 := Lib.hid ho
  clear ho hg hL5 KN4 HR4 G5 O4 B4
  clear q0 q1 q2 q3 q4 q5
  have q0 := KN5.out.cell 0
  have q1 := KN5.out.cell 1
  have q2 := KN5.out.cell 2
  have q3 := KN5.out.cell 3
  have q4 := KN5.out.cell 4
  have q5 := KN5.out.cell 5
  simp at q0 q1 q2 q3 q4 q5
  go_wp2_with fail
  refine (counted_any 5).mono ?_
  rintro e wz ⟨rfl, rfl⟩
  rw [show countedF 5 = false from rfl]
  go_wp2_with (at_builtin; refine Stop.of ?_)
  have KNa := Lib.hid (KN5.out.alloc (.cells #[.int .u8 1] 5))
  have Oa := Lib.hid (O5.out.alloc (.cells #[.int .u8 1] 5))
  have Ba := Lib.hid (B5.out.alloc B5.out.size (.cells #[.int .u8 1] 5))
  refine ⟨append_bytes (m := [1]) Oa.out (byte_src w5 1 (by decide)) (by simp only [List.length_cons, List.length_nil]; omega) Ba.out.size rfl rfl rfl rfl ?_⟩
  intro v6 w6 ho hg _
  obtain ⟨L6, hL6⟩ : ∃ L : List UInt8, L = L5 ++ [1] := ⟨_, rfl⟩
  rw [← hL6] at ho
  have e6 := Lib.hid hL6
  have l6 : L6.length ≤ 277 := by rw [hL6]; simp only [List.length_append, List.length_cons, List.length_nil]; omega
  have B6 := Lib.hid (below_grown Ba.out Oa.out hg)
  have G6 := Lib.hid (show Keeps (fun k => some k = v5.ownBlock) (w5.alloc (.cells #[.int .u8 1] 5)) w6 from Keeps.of_grown hg)
  have KN6 := Lib.hid (Rws.blk (w0 := w) Oa.out KNa.out (by decide) G6.out)
  have HR6 := Lib.hid (show BReads w6 w6.heap.size A ([] : List UInt8) from (H00.out.below B6.out).more B6.out.size)
  have O6 := Lib.hid ho
  clear KNa Oa Ba ho hg hL6 KN5 HR5 G6 O5 B5
  clear q0 q1 q2 q3 q4 q5
  have q0 := KN6.out.cell 0
  have q1 := KN6.out.cell 1
  have q2 := KN6.out.cell 2
  have q3 := KN6.out.cell 3
  have q4 := KN6.out.cell 4
  have q5 := KN6.out.cell 5
  simp at q0 q1 q2 q3 q4 q5
  go_wp2_with fail
  refine (valued_any 5).mono ?_
  rintro e wz ⟨rfl, rfl⟩
  rw [show valuedF 5 = true from rfl]
  go_wp2_with fail
  refine (rshort_any 0 O6.out B6.out.size (by omega) (by omega) (by omega)).mono ?_
  rintro e w7 h
  obtain ⟨v7, rfl, ho, hg, _⟩ := h.out
  clear h
  obtain ⟨L7, hL7⟩ : ∃ L : List UInt8, L = L6 ++ intF 0 := ⟨_, rfl⟩
  rw [← hL7] at ho
  have e7 := Lib.hid hL7
  have l7 : L7.length ≤ 287 := by rw [hL7]; have := intF_length (n := (0 : Int)) (by (try simp only [List.length_nil]); omega) (by (try simp only [List.length_nil]); omega); simp only [List.length_append]; omega
  have B7 := Lib.hid (below_grown B6.out O6.out hg)
  have G7 := Lib.hid (show Keeps (fun k => some k = v6.ownBlock) w6 w7 from Keeps.of_grown hg)
  have KN7 := Lib.hid (Rws.blk (w0 := w) O6.out KN6.out (by decide) G7.out)
  have HR7 := Lib.hid (show BReads w7 w7.heap.size A ([] : List UInt8) from (H00.out.below B7.out).more B7.out.size)
  have O7 := Lib.hid ho
  clear ho hg hL7 KN6 HR6 G7 O6 B6
  clear q0 q1 q2 q3 q4 q5
  have q0 := KN7.out.cell 0
  have q1 := KN7.out.cell 1
  have q2 := KN7.out.cell 2
  have q3 := KN7.out.cell 3
  have q4 := KN7.out.cell 4
  have q5 := KN7.out.cell 5
  simp at q0 q1 q2 q3 q4 q5
  go_wp2_with (at_builtin; refine Stop.of ?_)
  refine ⟨append_bytes O7.out (BReads.src (l := ([] : List UInt8)) HR7.out) (by (try simp only [List.length_nil]); omega) B7.out.size rfl rfl rfl rfl ?_⟩
  intro v8 w8 ho hg _
  obtain ⟨L8, hL8⟩ : ∃ L : List UInt8, L = L7 ++ ([] : List UInt8) := ⟨_, rfl⟩
  rw [← hL8] at ho
  have e8 := Lib.hid hL8
  have l8 : L8.length ≤ 4383 := by rw [hL8]; simp only [List.length_append]; (try simp only [List.length_nil]); omega
  have B8 := Lib.hid (below_grown B7.out O7.out hg)
  have G8 := Lib.hid (show Keeps (fun k => some k = v7.ownBlock) w7 w8 from Keeps.of_grown hg)
  have KN8 := Lib.hid (Rws.blk (w0 := w) O7.out KN7.out (by decide) G8.out)
  have HR8 := Lib.hid (show BReads w8 w8.heap.size A ([] : List UInt8) from (H00.out.below B8.out).more B8.out.size)
  have O8 := Lib.hid ho
  clear ho hg hL8 KN7 HR7 G8 O7 B7
  clear q0 q1 q2 q3 q4 q5
  have q0 := KN8.out.cell 0
  have q1 := KN8.out.cell 1
  have q2 := KN8.out.cell 2
  have q3 := KN8.out.cell 3
  have q4 := KN8.out.cell 4
  have q5 := KN8.out.cell 5
  simp at q0 q1 q2 q3 q4 q5
  go_wp2
  go_ret2
  refine .inl ⟨HM.out, _, rfl, ?_, B8.out⟩
  have he : L8 = En.enc ⟨5, s, 0, key, [], true⟩ := by rw [e8.out, e7.out, e6.out, e5.out, e4.out, e3.out, e2.out]; rfl
  rw [← he]
  exact O8.out
set_option maxRecDepth 100000 in
set_option maxHeartbeats 1600000 in
theorem renc_6_false {w : World} {A : Option Addr} {c : Nat} (s n : Int) (hm : En.may ⟨6, s, n, ⟨#[]⟩, [], false⟩) (hr : BReads w w.heap.size A ([] : List UInt8)) :
    Calls Try.prog 19 #[.agg (En.cells ⟨6, s, n, ⟨#[]⟩, [], false⟩ A c)] w (EncPost w ⟨6, s, n, ⟨#[]⟩, [], false⟩) := by
  have HC := Lib.hid (En.chk_ok hm)
  have HM := Lib.hid hm
  have hbd := En.may_bounds hm
  simp only at hbd
  have a5 := Lib.hid (str_length ⟨#[]⟩)
  clear hm
  have BA := Lib.hid ((Below.refl w.heap.size w).alloc (Nat.le_refl _) (.cells #[.int .i64 6, .int .i64 s, .int .i64 n, .string ⟨#[]⟩, .slice A 0 c, .bool false] 25))
  have KN := Lib.hid (Blk.new w 25 #[.int .i64 6, .int .i64 s, .int .i64 n, .string ⟨#[]⟩, .slice A 0 c, .bool false])
  unfold En.cells
  simp only
  have HR := Lib.hid ((hr.below BA.out).more BA.out.size)
  have H00 := Lib.hid hr
  clear hr
  go_enter Try.func19, Try.ntmps19
  go_wp2_with fail
  obtain ⟨W, hW⟩ : ∃ x, x = w.alloc (.cells #[.int .i64 6, .int .i64 s, .int .i64 n, .string ⟨#[]⟩, .slice A 0 c, .bool false] 25) := ⟨_, rfl⟩
  obtain ⟨T, hT⟩ : ∃ x, x = w.heap.size := ⟨_, rfl⟩
  have HT := Lib.hid hT
  rw [← hW, ← hT] at KN
  rw [← hW] at BA HR
  rw [← hW, ← hT]
  clear hW hT
  refine (rcheck_any ⟨6, s, n, ⟨#[]⟩, [], false⟩ (by simp <;> omega) (by simp <;> omega)).mono ?_
  rintro e w1 ⟨rfl, hb⟩
  rw [HC.out]
  have KN1 := Lib.hid (KN.out.below' hb)
  have HR1 := Lib.hid ((HR.out.below hb).more hb.size)
  have B1 := Lib.hid (BA.out.trans (hb.mono BA.out.size))
  clear hb KN HR BA
  have x0 := KN1.out.cell 0
  simp at x0
  have hT1 := KN1.out.lt
  go_wp2_with fail
  have KN2 := Lib.hid (KN1.out.alloc (.cells #[.int .u8 6] 5))
  have O2 := Lib.hid (owns_less (byte_owns w1 6 (n := 6) (by decide)) B1.out.size)
  have B2 := Lib.hid (B1.out.alloc B1.out.size (.cells #[.int .u8 6] 5))
  have hX := (Below.refl w1.heap.size w1).alloc (Nat.le_refl _) (.cells #[.int .u8 6] 5)
  have HR2 := Lib.hid ((HR1.out.below hX).more hX.size)
  clear hX
  obtain ⟨w2, hw2⟩ : ∃ x, x = w1.alloc (.cells #[.int .u8 6] 5) := ⟨_, rfl⟩
  obtain ⟨v2, hv2⟩ : ∃ x, x = Value.slice (some ⟨w1.heap.size, 0, none⟩) 1 1 := ⟨_, rfl⟩
  rw [← hw2] at KN2 B2 HR2
  rw [← hw2, ← hv2] at O2
  rw [← hw2, ← hv2]
  obtain ⟨L2, hL2⟩ : ∃ L : List UInt8, L = [6] := ⟨_, rfl⟩
  rw [← hL2] at O2
  have e2 := Lib.hid hL2
  have l2 : L2.length ≤ 1 := by rw [hL2]; simp
  clear hw2 hv2 hL2 x0 hT1 KN1 HR1 B1
  have q0 := KN2.out.cell 0
  have q1 := KN2.out.cell 1
  have q2 := KN2.out.cell 2
  have q3 := KN2.out.cell 3
  have q4 := KN2.out.cell 4
  have q5 := KN2.out.cell 5
  simp at q0 q1 q2 q3 q4 q5
  go_wp2_with fail
  refine (keyed_any 6).mono ?_
  rintro e wz ⟨rfl, rfl⟩
  rw [show keyedF 6 = false from rfl]
  clear q0 q1 q2 q3 q4 q5
  have q0 := KN2.out.cell 0
  have q1 := KN2.out.cell 1
  have q2 := KN2.out.cell 2
  have q3 := KN2.out.cell 3
  have q4 := KN2.out.cell 4
  have q5 := KN2.out.cell 5
  simp at q0 q1 q2 q3 q4 q5
  go_wp2_with fail
  refine (stamped_any 6).mono ?_
  rintro e wz ⟨rfl, rfl⟩
  rw [show stampedF 6 = true from rfl]
  go_wp2_with fail
  refine (rshort_any s O2.out B2.out.size (by omega) (by omega) (by omega)).mono ?_
  rintro e w3 h
  obtain ⟨v3, rfl, ho, hg, _⟩ := h.out
  clear h
  obtain ⟨L3, hL3⟩ : ∃ L : List UInt8, L = L2 ++ intF s := ⟨_, rfl⟩
  rw [← hL3] at ho
  have e3 := Lib.hid hL3
  have l3 : L3.length ≤ 11 := by rw [hL3]; have := intF_length (n := s) (by omega) (by omega); simp only [List.length_append]; omega
  have B3 := Lib.hid (below_grown B2.out O2.out hg)
  have G3 := Lib.hid (show Keeps (fun k => some k = v2.ownBlock) w2 w3 from Keeps.of_grown hg)
  have KN3 := Lib.hid (Rws.blk (w0 := w) O2.out KN2.out (by decide) G3.out)
  have HR3 := Lib.hid (show BReads w3 w3.heap.size A ([] : List UInt8) from (H00.out.below B3.out).more B3.out.size)
  have O3 := Lib.hid ho
  clear ho hg hL3 KN2 HR2 G3 O2 B2
  clear q0 q1 q2 q3 q4 q5
  have q0 := KN3.out.cell 0
  have q1 := KN3.out.cell 1
  have q2 := KN3.out.cell 2
  have q3 := KN3.out.cell 3
  have q4 := KN3.out.cell 4
  have q5 := KN3.out.cell 5
  simp at q0 q1 q2 q3 q4 q5
  go_wp2_with fail
  refine (counted_any 6).mono ?_
  rintro e wz ⟨rfl, rfl⟩
  rw [show countedF 6 = true from rfl]
  go_wp2_with fail
  refine (rshort_any n O3.out B3.out.size (by omega) (by omega) (by omega)).mono ?_
  rintro e w4 h
  obtain ⟨v4, rfl, ho, hg, _⟩ := h.out
  clear h
  obtain ⟨L4, hL4⟩ : ∃ L : List UInt8, L = L3 ++ intF n := ⟨_, rfl⟩
  rw [← hL4] at ho
  have e4 := Lib.hid hL4
  have l4 : L4.length ≤ 21 := by rw [hL4]; have := intF_length (n := n) (by omega) (by omega); simp only [List.length_append]; omega
  have B4 := Lib.hid (below_grown B3.out O3.out hg)
  have G4 := Lib.hid (show Keeps (fun k => some k = v3.ownBlock) w3 w4 from Keeps.of_grown hg)
  have KN4 := Lib.hid (Rws.blk (w0 := w) O3.out KN3.out (by decide) G4.out)
  have HR4 := Lib.hid (show BReads w4 w4.heap.size A ([] : List UInt8) from (H00.out.below B4.out).more B4.out.size)
  have O4 := Lib.hid ho
  clear ho hg hL4 KN3 HR3 G4 O3 B3
  clear q0 q1 q2 q3 q4 q5
  have q0 := KN4.out.cell 0
  have q1 := KN4.out.cell 1
  have q2 := KN4.out.cell 2
  have q3 := KN4.out.cell 3
  have q4 := KN4.out.cell 4
  have q5 := KN4.out.cell 5
  simp at q0 q1 q2 q3 q4 q5
  go_wp2_with fail
  refine (valued_any 6).mono ?_
  rintro e wz ⟨rfl, rfl⟩
  rw [show valuedF 6 = false from rfl]
  go_wp2
  go_ret2
  refine .inl ⟨HM.out, _, rfl, ?_, B4.out⟩
  have he : L4 = En.enc ⟨6, s, n, ⟨#[]⟩, [], false⟩ := by rw [e4.out, e3.out, e2.out]; rfl
  rw [← he]
  exact O4.out
theorem renc_no {w : World} {A : Option Addr} {c : Nat} (x : En) (hm : ¬ x.may) (hks : x.key.size ≤ 140737488355328) (hvl : x.value.length ≤ 140737488355328) :
    Calls Try.prog 19 #[.agg (x.cells A c)] w (EncPost w x) := by
  obtain ⟨k, s, n, key, v, d⟩ := x
  have HC := Lib.hid (En.chk_no hm)
  have HM := Lib.hid hm
  clear hm
  unfold En.cells
  simp only at hks hvl ⊢
  go_enter Try.func19, Try.ntmps19
  go_wp2_with fail
  refine (rcheck_any ⟨k, s, n, key, v, d⟩ hks hvl).mono ?_
  rintro e w1 ⟨rfl, hb⟩
  rw [HC.out]
  have B1 := Lib.hid (below_alloc1 hb)
  clear hb
  go_wp2
  go_ret2
  exact .inr ⟨HM.out, rfl, B1.out⟩
theorem rencode_any {w : World} {A : Option Addr} {c : Nat} (x : En) (hr : BReads w w.heap.size A x.value) (hks : x.key.size ≤ 140737488355328) (hvl : x.value.length ≤ 140737488355328) :
    Calls Try.prog 19 #[.agg (x.cells A c)] w (EncPost w x) := by
  by_cases hm : x.may
  · obtain ⟨k, s, n, key, v, d⟩ := x
    have hb := En.may_bounds hm
    have hm0 := hm
    simp only at hb hr
    rcases (show k = 1 ∨ k = 2 ∨ (k = 3 ∨ k = 4 ∨ k = 6) ∨ k = 5 from by omega) with rfl | rfl | hk | rfl
    · rw [may_1] at hm0
      obtain ⟨_, _, rfl, rfl, rfl, _⟩ := hm0
      exact renc_1_false key v hm hr
    · rw [may_2] at hm0
      obtain ⟨_, _, rfl, rfl, rfl, hv⟩ := hm0
      obtain rfl := List.eq_nil_of_length_eq_zero hv
      exact renc_2_false key hm hr
    · rw [may_m hk] at hm0
      obtain ⟨hkz, _, _, _, _, rfl, hv⟩ := hm0
      obtain rfl := List.eq_nil_of_length_eq_zero hv
      obtain rfl := str_empty hkz
      rcases hk with rfl | rfl | rfl
      · exact renc_3_false s n hm hr
      · exact renc_4_false s n hm hr
      · exact renc_6_false s n hm hr
    · rw [may_5] at hm0
      obtain ⟨_, _, _, _, rfl, _, hv⟩ := hm0
      cases d
      · exact renc_5_false s key v hm hr
      · obtain rfl := List.eq_nil_of_length_eq_zero (hv rfl)
        exact renc_5_true s key hm hr
  · exact renc_no x hm hks hvl
end Go.Proofs.Ytnnladfndmdapaa
