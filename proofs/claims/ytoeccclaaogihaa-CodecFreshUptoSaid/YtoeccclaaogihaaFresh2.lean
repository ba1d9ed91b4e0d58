/- CodecFresh: the walk (printed by a program of this claim's own). -/
import Derived.Test.YtoeccclaaogihaaFresh1
import Derived.RegionTactic
import Derived.BigRegion
namespace Go.Proofs.Ytoeccclaaogihaa
open Go.RowKit

theorem reads_left {w : World} {B : Nat} {A : Option Addr} {l m : List UInt8} (h : BReads w B A (l ++ m)) : BReads w B A l := by
  refine ⟨by rw [bys_length, Nat.mul_one], fun hp => ?_⟩
  obtain ⟨b, off, e, hb, hc⟩ := h.2 (by rw [List.length_append]; omega)
  refine ⟨b, off, e, hb, fun j u hu => hc j u ?_⟩
  have hj : j < l.length := by have := (List.getElem?_eq_some_iff.1 hu).1; rwa [bys_length] at this
  rw [← hu, bys_get, bys_get, List.getElem?_append_left hj]
/-- The rows of the call's own, and two things in their cells. -/
structure FSt (w0 w : World) (T0 U : Nat) (tc uc : Array Value) (rs : List (Value × List UInt8)) : Prop where
  rws : Rws w0 w rs
  kt : Blk w T0 42 tc
  ku : Blk w U 42 uc
section
variable {w0 w w' : World} {T0 U : Nat} {tc uc : Array Value} {rs : List (Value × List UInt8)} {v v' u : Value} {l l' m : List UInt8}
theorem FSt.go (h : FSt w0 w T0 U tc uc rs) (hb : Below w.heap.size w w') : FSt w0 w' T0 U tc uc rs := ⟨h.rws.go hb, h.kt.below' hb, h.ku.below' hb⟩
theorem FSt.new (h : FSt w0 w T0 U tc uc rs) (ho : BOwns w' w.heap.size v l) (hb : Below w.heap.size w w') : FSt w0 w' T0 U tc uc ((v, l) :: rs) := ⟨h.rws.new ho hb, h.kt.below' hb, h.ku.below' hb⟩
theorem FSt.fill (h : FSt w0 w T0 U tc uc ((v, l) :: rs)) (ho : BOwns w' w0.heap.size v l') (hk : Keeps (fun k => some k = v.ownBlock) w w') : FSt w0 w' T0 U tc uc ((v, l') :: rs) :=
  ⟨h.rws.fill ho hk, Rws.blk h.rws.head h.kt (by decide) hk, Rws.blk h.rws.head h.ku (by decide) hk⟩
theorem FSt.grow (h : FSt w0 w T0 U tc uc ((v, l) :: rs)) (hg : Grows w w' w0.heap.size v.ownBlock v' l') : FSt w0 w' T0 U tc uc ((v', l') :: rs) :=
  ⟨h.rws.grow hg, Rws.blk h.rws.head h.kt (by decide) hg.keeps, Rws.blk h.rws.head h.ku (by decide) hg.keeps⟩
theorem FSt.swap (h : FSt w0 w T0 U tc uc ((v, l) :: (u, m) :: rs)) : FSt w0 w T0 U tc uc ((u, m) :: (v, l) :: rs) := ⟨h.rws.swap, h.kt, h.ku⟩
end
set_option maxRecDepth 100000 in
set_option maxHeartbeats 6400000 in
theorem codecFresh_walk {w : World} {A A' : Option Addr} {c c' : Nat} {b : List UInt8} (hr : BReads w w.heap.size A b) (t : Th) (hok : t.ok) (hp : BReads w w.heap.size A' t.p) (hl : b.length + t.p.length ≤ 1048576) :
    Calls Try.prog 10 #[.slice A b.length c, .agg (t.cells A' c')] w fun e w' => e = .returned (.bool true) ∧ Below w.heap.size w w' := by
  obtain ⟨kind, v, n, p⟩ := t
  unfold Th.cells
  simp only at hp hl ⊢
  have HOK := Lib.hid (show ∀ k : Int, Th.ok ⟨k, v, n, p⟩ from fun k => ⟨hok.v0, hok.v1, hok.n0, hok.n1⟩)
  have HR := Lib.hid hr
  have HP := Lib.hid hp
  have BA := Lib.hid ((Below.refl w.heap.size w).alloc (Nat.le_refl _) (.cells #[.int .i64 kind, .int .u64 v, .int .i64 n, .slice A' p.length c'] 42))
  have KT := Lib.hid (Blk.new w 42 #[.int .i64 kind, .int .u64 v, .int .i64 n, .slice A' p.length c'])
  clear hr hp hok
  go_enter Try.func10, Try.ntmps10
  go_wp2
  obtain ⟨W, hW⟩ : ∃ x, x = w.alloc (.cells #[.int .i64 kind, .int .u64 v, .int .i64 n, .slice A' p.length c'] 42) := ⟨_, rfl⟩
  obtain ⟨T0, hT0⟩ : ∃ s, s = w.heap.size := ⟨_, rfl⟩
  have HT0 := Lib.hid hT0
  rw [← hW, ← hT0] at KT
  rw [← hW] at BA
  rw [← hW, ← hT0]
  clear hW hT0
  go_loopw [17] (fun i wr => ∃ (K : Nat) (kk : Int), i = .int .i64 K ∧ K ≤ 7 ∧ Hid (Blk wr T0 42 #[.int .i64 kk, .int .u64 v, .int .i64 n, .slice A' p.length c']) ∧ Hid (Below w.heap.size w wr)) (fun i _ => 7 - (intOf i).toNat)
  case atStart => exact ⟨0, kind, rfl, by omega, KT, BA⟩
  case round =>
    clear KT BA
    obtain ⟨K, kk, rfl, hK, hT, hB⟩ := hrel
    by_cases hlt : (K : Int) < 7
    · have c0 := hT.out.cell 0
      have c3 := hT.out.cell 3
      have f0 := hT.out.frozen 0
      simp at c0 c3
      have KT := Lib.hid (show Blk (wr.setCell ⟨T0, 0, none⟩ (.int .i64 K)) T0 42 #[.int .i64 K, .int .u64 v, .int .i64 n, .slice A' p.length c'] from by simpa using hT.out.set_ 0 (.int .i64 K))
      have B1 := Lib.hid (show Below w.heap.size w (wr.setCell ⟨T0, 0, none⟩ (.int .i64 K)) from hB.out.setCell (by show w.heap.size ≤ T0; rw [HT0.out]; exact Nat.le_refl _) _)
      go_wp2
      obtain ⟨w1, hw1⟩ : ∃ x, x = wr.setCell ⟨T0, 0, none⟩ (.int .i64 (K : Int)) := ⟨_, rfl⟩
      rw [← hw1] at KT B1 ⊢
      clear hw1 c0 c3 f0 hT hB
      have c3 := KT.out.cell 3
      simp at c3
      have HB1 := Lib.hid ((HR.out.below B1.out).more B1.out.size)
      have HP1 := Lib.hid ((HP.out.below B1.out).more B1.out.size)
      have R0 := Lib.hid (Rws.nil B1.out)
      have tok1 : True := trivial
      go_region_held3 (fun w' => w'.cell? ⟨T0, 3, none⟩ = some (.slice A' p.length c')) (first | assumption) (first | (go_at_call 31; have _t := tok1; refine (roomy_any (w := w1.drew) HB1.out (by omega)).mono ?_; rintro e w2 h; obtain ⟨va, rfl, ho, hb⟩ := h.out; have R2 := Lib.hid (R0.out.new (w' := w2) ho (show Below w1.heap.size w1 w2 from ⟨hb.os, hb.tape, hb.output, hb.size, hb.block⟩)); have KT2 := Lib.hid (KT.out.below' (show Below w1.heap.size w1 w2 from ⟨hb.os, hb.tape, hb.output, hb.size, hb.block⟩)); have HP2 := Lib.hid ((HP1.out.below (show Below w1.heap.size w1 w2 from ⟨hb.os, hb.tape, hb.output, hb.size, hb.block⟩)).more hb.size); have x3 := KT2.out.cell 3; simp at x3; clear tok1 _t h ho hb) | (go_at_call 31; refine (roomy_any HP2.out (by omega)).mono ?_; rintro e w3 h; obtain ⟨vm, rfl, ho, hb⟩ := h.out; have R3 := Lib.hid (R2.out.new ho hb); have KT3 := Lib.hid (KT2.out.below' hb); have y3 := KT3.out.cell 3; simp at y3; clear h ho hb))
      clear R0 R2 KT KT2 HP1 HP2 HB1 c3 x3 y3
      go_wp2
      obtain ⟨LA, hLA⟩ : ∃ LA, LA = b ++ List.replicate 80 (165 : UInt8) := ⟨_, rfl⟩
      obtain ⟨LM, hLM⟩ : ∃ LM, LM = p ++ List.replicate 80 (165 : UInt8) := ⟨_, rfl⟩
      have r3 := R3.out
      rw [← hLA, ← hLM] at r3
      have hLAl : LA.length ≤ 1048700 := by rw [hLA, List.length_append, List.length_replicate]; omega
      have hLMl : LM.length ≤ 1048700 := by rw [hLM, List.length_append, List.length_replicate]; omega
      have hbLA : b.length ≤ LA.length := by rw [hLA, List.length_append]; omega
      have hpLM : p.length ≤ LM.length := by rw [hLM, List.length_append]; omega
      obtain ⟨Am, cm, rfl, hcm, _⟩ := r3.head.slice
      obtain ⟨Aa, ca, rfl, hca, _⟩ := r3.tail.head.slice
      have HLA := Lib.hid hLA
      have HLM := Lib.hid hLM
      replace R3 := Lib.hid r3
      have hbca : b.length ≤ ca := by omega
      have hpcm : p.length ≤ cm := by omega
      clear r3 hLA hLM
      have t0 := KT3.out.cell 0
      have t1 := KT3.out.cell 1
      have t2 := KT3.out.cell 2
      have t3 := KT3.out.cell 3
      simp at t0 t1 t2 t3
      have hT0l := KT3.out.lt
      go_region
      have KU := Lib.hid (show Blk (w3.alloc (.cells #[.int .i64 K, .int .u64 v, .int .i64 n, .slice A' p.length c'] 42)).drew w3.heap.size 42 #[.int .i64 K, .int .u64 v, .int .i64 n, .slice A' p.length c'] from Blk.new w3 42 #[.int .i64 K, .int .u64 v, .int .i64 n, .slice A' p.length c'])
      have KT4 := Lib.hid (show Blk (w3.alloc (.cells #[.int .i64 K, .int .u64 v, .int .i64 n, .slice A' p.length c'] 42)).drew T0 42 #[.int .i64 K, .int .u64 v, .int .i64 n, .slice A' p.length c'] from KT3.out.alloc _)
      have R4 := Lib.hid (show Rws w (w3.alloc (.cells #[.int .i64 K, .int .u64 v, .int .i64 n, .slice A' p.length c'] 42)).drew [(Value.slice Am LM.length cm, LM), (Value.slice Aa LA.length ca, LA)] from R3.out.go (((Below.refl w3.heap.size w3).alloc (Nat.le_refl _) (.cells #[.int .i64 K, .int .u64 v, .int .i64 n, .slice A' p.length c'] 42)).drew))
      obtain ⟨w4, hw4⟩ : ∃ x, x = (w3.alloc (.cells #[.int .i64 K, .int .u64 v, .int .i64 n, .slice A' p.length c'] 42)).drew := ⟨_, rfl⟩
      obtain ⟨U, hU⟩ : ∃ x, x = w3.heap.size := ⟨_, rfl⟩
      have hUw : w.heap.size ≤ U := by rw [hU]; exact R3.out.bel.size
      rw [← hw4] at KU KT4 R4 ⊢
      rw [← hU] at KU hT0l ⊢
      clear hw4 hU t0 t1 t2 t3 KT3 R3
      have t0 := KT4.out.cell 0
      have t1 := KT4.out.cell 1
      have t2 := KT4.out.cell 2
      have t3 := KT4.out.cell 3
      have u3 := KU.out.cell 3
      have fu3 := KU.out.frozen 3
      simp at t0 t1 t2 t3 u3
      have hne : ¬ T0 = U := by omega
      have hne' : ¬ U = T0 := by omega
      have KU5 := Lib.hid (show Blk (w4.setCell ⟨U, 3, none⟩ (.slice Am p.length cm)) U 42 #[.int .i64 K, .int .u64 v, .int .i64 n, .slice Am p.length cm] from by simpa using KU.out.set_ 3 (.slice Am p.length cm))
      have KT5 := Lib.hid (KT4.out.far (p := ⟨U, 3, none⟩) hne (.slice Am p.length cm))
      have hk5 : Keeps (fun k => k = U) w4 (w4.setCell ⟨U, 3, none⟩ (.slice Am p.length cm)) := (Keeps.refl (fun k => k = U) w4).setCell (p := ⟨U, 3, none⟩) (.inl rfl) _
      have R5 := Lib.hid (R4.out.turnBlk KU.out (by decide) hk5 hUw)
      have tt0 := KT5.out.cell 0
      have tt1 := KT5.out.cell 1
      have tt2 := KT5.out.cell 2
      have tt3 := KT5.out.cell 3
      simp at tt0 tt1 tt2 tt3
      clear hk5
      go_wp2_with fail
      obtain ⟨w5, hw5⟩ : ∃ x, x = w4.setCell ⟨U, 3, none⟩ (.slice Am p.length cm) := ⟨_, rfl⟩
      rw [← hw5] at KU5 KT5 R5 ⊢
      clear hw5 KU KT4 R4 t0 t1 t2 t3 u3 fu3 tt0 tt1 tt2 tt3
      have F5 := Lib.hid (show FSt w w5 T0 U #[.int .i64 K, .int .u64 v, .int .i64 n, .slice A' p.length c'] #[.int .i64 K, .int .u64 v, .int .i64 n, .slice Am p.length cm] [(Value.slice Am LM.length cm, LM), (Value.slice Aa LA.length ca, LA)] from ⟨R5.out, KT5.out, KU5.out⟩)
      obtain ⟨TB, hTB⟩ : ∃ TB, TB = Th.bytes ⟨(K : Int), v, n, p⟩ := ⟨_, rfl⟩
      have HTB := Lib.hid hTB
      have hTBl : TB.length ≤ p.length + 10 := by rw [hTB]; exact Th.bytes_len _ (HOK.out _) (by show p.length ≤ _; omega)
      clear R5 KT5 KU5 hTB
      refine (wantLaid_any ⟨(K : Int), v, n, p⟩ (HOK.out K) ((HR.out.below F5.out.rws.bel).more F5.out.rws.bel.size) ((HP.out.below F5.out.rws.bel).more F5.out.rws.bel.size) (by show b.length + p.length ≤ _; omega)).mono ?_
      rintro e w6 h
      obtain ⟨LW, A6, c6, rfl, E6, _, Q6, B6⟩ := h.named
      have hLW : LW.length ≤ b.length + p.length + 10 := by rw [E6.out, List.length_append, ← HTB.out]; omega
      have E6' := Lib.hid (show LW = b ++ TB from by rw [HTB.out]; exact E6.out)
      have F6 := Lib.hid (F5.out.go B6.out)
      clear h E6 F5 B6
      go_wp2
      have tok1 : True := trivial
      have x0 := F6.out.ku.cell 0
      have x1 := F6.out.ku.cell 1
      have x2 := F6.out.ku.cell 2
      have x3 := F6.out.ku.cell 3
      simp at x0 x1 x2 x3
      have hin := Lib.hid (show BReads w6 w6.heap.size Aa b from reads_left (by have := F6.out.rws.tail.head.reads; rw [HLA.out] at this; exact this))
      have hmo := Lib.hid (show BReads w6 w6.heap.size Am p from reads_left (by have := F6.out.rws.head.reads; rw [HLM.out] at this; exact this))
      go_region_held3 (fun w' => w'.cell? ⟨U, 0, none⟩ = some (.int .i64 K) ∧ w'.cell? ⟨U, 1, none⟩ = some (.int .u64 v) ∧ w'.cell? ⟨U, 2, none⟩ = some (.int .i64 n) ∧ w'.cell? ⟨U, 3, none⟩ = some (.slice Am p.length cm)) (first | exact ⟨x0, x1, x2, x3⟩ | exact ⟨y0, y1, y2, y3⟩ | exact ⟨z0, z1, z2, z3⟩) (first | (go_at_call 33; have _t := tok1; refine (laid_any (w := w6.drew) ⟨(K : Int), v, n, p⟩ (HOK.out K) hin.out hmo.out (by show b.length + p.length ≤ _; omega)).mono ?_; rintro e w7 h; obtain ⟨v1, rfl, ho, hb⟩ := h.out; have F7 := Lib.hid (F6.out.new (w' := w7) ho (show Below w6.heap.size w6 w7 from ⟨hb.os, hb.tape, hb.output, hb.size, hb.block⟩)); have hin7 := Lib.hid ((hin.out.below (show Below w6.heap.size w6 w7 from ⟨hb.os, hb.tape, hb.output, hb.size, hb.block⟩)).more hb.size); have hmo7 := Lib.hid ((hmo.out.below (show Below w6.heap.size w6 w7 from ⟨hb.os, hb.tape, hb.output, hb.size, hb.block⟩)).more hb.size); have Q7 := Lib.hid ((Q6.out.below (show Below w6.heap.size w6 w7 from ⟨hb.os, hb.tape, hb.output, hb.size, hb.block⟩)).more hb.size); have y0 := F7.out.ku.cell 0; have y1 := F7.out.ku.cell 1; have y2 := F7.out.ku.cell 2; have y3 := F7.out.ku.cell 3; simp at y0 y1 y2 y3; clear tok1 _t h ho hb) | (go_at_call 33; refine (laid_any ⟨(K : Int), v, n, p⟩ (HOK.out K) hin7.out hmo7.out (by show b.length + p.length ≤ _; omega)).mono ?_; rintro e w8 h; obtain ⟨v2, rfl, ho, hb⟩ := h.out; have F8 := Lib.hid (F7.out.new ho hb); have Q8 := Lib.hid ((Q7.out.below hb).more hb.size); have z0 := F8.out.ku.cell 0; have z1 := F8.out.ku.cell 1; have z2 := F8.out.ku.cell 2; have z3 := F8.out.ku.cell 3; simp at z0 z1 z2 z3; clear h ho hb))
      have f8 := F8.out
      rw [show b ++ Th.bytes ⟨(K : Int), v, n, p⟩ = LW from by rw [E6'.out, HTB.out]] at f8
      obtain ⟨A72, c72, rfl, _, _⟩ := f8.rws.head.slice
      obtain ⟨A71, c71, rfl, _, _⟩ := f8.rws.tail.head.slice
      replace F8 := Lib.hid f8
      clear f8 F6 F7 hin hmo hin7 hmo7 Q6 Q7 x0 x1 x2 x3 y0 y1 y2 y3 z0 z1 z2 z3
      go_wp2_with fail
      have hr1 := F8.out.rws.tail.head.reads
      refine (equal_any hr1 Q8.out (by omega)).mono ?_
      clear hr1
      rintro e w9 ⟨rfl, k, hk⟩
      rw [show decide (LW = LW) = true from by simp]
      have F9 := Lib.hid (show FSt w w9 T0 U #[.int .i64 K, .int .u64 v, .int .i64 n, .slice A' p.length c'] #[.int .i64 K, .int .u64 v, .int .i64 n, .slice Am p.length cm] [(.slice A72 LW.length c72, LW), (.slice A71 LW.length c71, LW), (.slice Am LM.length cm, LM), (.slice Aa LA.length ca, LA)] from by rw [hk]; exact F8.out.go (below_drewN (Below.refl _ _) k))
      have Q9 := Lib.hid (show BReads w9 w8.heap.size A6 LW from by rw [hk]; exact Q8.out)
      clear hk F8 Q8
      go_wp2_with fail
      have hr1 := F9.out.rws.head.reads
      refine (equal_any hr1 Q9.out (by omega)).mono ?_
      clear hr1
      rintro e w10 ⟨rfl, k, hk⟩
      rw [show decide (LW = LW) = true from by simp]
      have F10 := Lib.hid (show FSt w w10 T0 U #[.int .i64 K, .int .u64 v, .int .i64 n, .slice A' p.length c'] #[.int .i64 K, .int .u64 v, .int .i64 n, .slice Am p.length cm] [(.slice A72 LW.length c72, LW), (.slice A71 LW.length c71, LW), (.slice Am LM.length cm, LM), (.slice Aa LA.length ca, LA)] from by rw [hk]; exact F9.out.go (below_drewN (Below.refl _ _) k))
      clear hk F9 Q9
      go_wp2_with fail
      have hr1 := F10.out.rws.tail.tail.tail.head.reads
      refine (whole_any hr1 (Nat.le_refl _) ((HR.out.below F10.out.rws.bel).more F10.out.rws.bel.size) (by omega) HLA.out).mono ?_
      clear hr1
      rintro e w11 ⟨rfl, hb⟩
      have F11 := Lib.hid (F10.out.go hb)
      have t3 := F11.out.kt.cell 3
      simp at t3
      clear hb F10
      go_wp2_with fail
      have hr1 := F11.out.rws.tail.tail.head.reads
      refine (whole_any hr1 (Nat.le_refl _) ((HP.out.below F11.out.rws.bel).more F11.out.rws.bel.size) (by show p.length ≤ _; omega) HLM.out).mono ?_
      clear hr1
      rintro e w12 ⟨rfl, hb⟩
      have F12 := Lib.hid (F11.out.go hb)
      clear hb F11 t3
      go_wp2
      go_loopw [74] (fun i wr => ∃ I : Nat, i = .int .i64 I ∧ I ≤ LW.length ∧ Hid (BOwns wr w.heap.size (.slice A71 LW.length c71) (fillL 1 I LW)) ∧ Hid (Keeps (fun k => some k = (Value.slice A71 LW.length c71).ownBlock) w12 wr)) (fun i _ => LW.length - (intOf i).toNat)
      case atStart => exact ⟨0, rfl, by omega, Lib.hid F12.out.rws.tail.head, Lib.hid (Keeps.refl _ _)⟩
      case round =>
        obtain ⟨I, rfl, hI, hO, hK2⟩ := hrel
        by_cases hlt2 : (I : Int) < LW.length
        · obtain ⟨gx, ux, hAx, f1, c1, HO, HK⟩ := fill_step (m := 1) hO.out (by omega) (by decide) hK2.out
          subst hAx
          clear hO hK2
          go_wp2
          exact ⟨⟨I + 1, by go_num, by omega, HO, HK⟩, by simp [intOf]; omega⟩
        · obtain rfl : I = LW.length := by omega
          have hO7 := hO.out
          rw [fillL_full] at hO7
          obtain ⟨w13, hw13⟩ : ∃ w13, w13 = wr := ⟨_, rfl⟩
          rw [← hw13] at hO7 hK2 ⊢
          have F13 := Lib.hid (F12.out.swap.fill hO7 hK2.out).swap
          clear hO7 hO hK2 hw13 F12 hI hlt2
          go_wp2
          go_loopw [83] (fun i wr => ∃ I : Nat, i = .int .i64 I ∧ I ≤ LW.length ∧ Hid (BOwns wr w.heap.size (.slice A72 LW.length c72) (fillL 2 I LW)) ∧ Hid (Keeps (fun k => some k = (Value.slice A72 LW.length c72).ownBlock) w13 wr)) (fun i _ => LW.length - (intOf i).toNat)
          case atStart => exact ⟨0, rfl, by omega, Lib.hid F13.out.rws.head, Lib.hid (Keeps.refl _ _)⟩
          case round =>
            obtain ⟨I, rfl, hI, hO, hK2⟩ := hrel
            by_cases hlt2 : (I : Int) < LW.length
            · obtain ⟨gx, ux, hAx, f1, c1, HO, HK⟩ := fill_step (m := 2) hO.out (by omega) (by decide) hK2.out
              subst hAx
              clear hO hK2
              go_wp2
              exact ⟨⟨I + 1, by go_num, by omega, HO, HK⟩, by simp [intOf]; omega⟩
            · obtain rfl : I = LW.length := by omega
              have hO7 := hO.out
              rw [fillL_full] at hO7
              obtain ⟨w14, hw14⟩ : ∃ w14, w14 = wr := ⟨_, rfl⟩
              rw [← hw14] at hO7 hK2 ⊢
              have F14 := Lib.hid (F13.out.fill hO7 hK2.out)
              clear hO7 hO hK2 hw14 F13 hI hlt2
              go_wp2
              go_loopw [11, 90] (fun v i wr => ∃ J : Nat, i = .int .i64 J ∧ J ≤ 70 ∧ Hid (Grows w14 wr w.heap.size (Value.slice A71 LW.length c71).ownBlock v (List.replicate LW.length 1 ++ List.replicate J 3))) (fun _ i _ => 70 - (intOf i).toNat)
              case atStart => exact ⟨0, rfl, by omega, Lib.hid (Grows.start (by simpa using F14.out.rws.tail.head) F14.out.rws.bel.size)⟩
              case round =>
                obtain ⟨J, rfl, hJ, hG⟩ := hrel
                by_cases hlt2 : (J : Int) < 70
                · go_wp2_with (at_builtin; refine Stop.of ?_)
                  refine ⟨append_bytes (m := [3]) (hG.out.own.alloc _) (byte_src wr 3 (by decide)) (by rw [List.length_append, List.length_replicate, List.length_replicate]; simp only [List.length_cons, List.length_nil]; omega) (by have := hG.out.le; have := hG.out.grown.size; simp; omega) rfl rfl rfl rfl ?_⟩
                  intro v2 w2 ho hg hf
                  have hG2 := hG.out.step ho hg hf
                  rw [rep_snoc] at hG2
                  have HG := Lib.hid hG2
                  clear ho hg hf hG2 hG
                  go_wp2
                  exact ⟨⟨J + 1, by go_num, by omega, HG⟩, by simp [intOf]; omega⟩
                · have hJ7 : J = 70 := by omega
                  obtain ⟨w15, hw15⟩ : ∃ w15, w15 = wr := ⟨_, rfl⟩
                  rw [← hw15] at hG ⊢
                  have hG2 := hG.out
                  rw [hJ7] at hG2
                  have F15 := Lib.hid (F14.out.swap.grow hG2).swap
                  clear hG hG2 hJ7 hw15 F14
                  go_wp2
                  go_loopw [12, 96] (fun v i wr => ∃ J : Nat, i = .int .i64 J ∧ J ≤ 70 ∧ Hid (Grows w15 wr w.heap.size (Value.slice A72 LW.length c72).ownBlock v (List.replicate LW.length 2 ++ List.replicate J 4))) (fun _ i _ => 70 - (intOf i).toNat)
                  case atStart => exact ⟨0, rfl, by omega, Lib.hid (Grows.start (by simpa using F15.out.rws.head) F15.out.rws.bel.size)⟩
                  case round =>
                    obtain ⟨J, rfl, hJ, hG⟩ := hrel
                    by_cases hlt2 : (J : Int) < 70
                    · go_wp2_with (at_builtin; refine Stop.of ?_)
                      refine ⟨append_bytes (m := [4]) (hG.out.own.alloc _) (byte_src wr 4 (by decide)) (by rw [List.length_append, List.length_replicate, List.length_replicate]; simp only [List.length_cons, List.length_nil]; omega) (by have := hG.out.le; have := hG.out.grown.size; simp; omega) rfl rfl rfl rfl ?_⟩
                      intro v2 w2 ho hg hf
                      have hG2 := hG.out.step ho hg hf
                      rw [rep_snoc] at hG2
                      have HG := Lib.hid hG2
                      clear ho hg hf hG2 hG
                      go_wp2
                      exact ⟨⟨J + 1, by go_num, by omega, HG⟩, by simp [intOf]; omega⟩
                    · have hJ7 : J = 70 := by omega
                      obtain ⟨w16, hw16⟩ : ∃ w16, w16 = wr := ⟨_, rfl⟩
                      rw [← hw16] at hG ⊢
                      have hG2 := hG.out
                      rw [hJ7] at hG2
                      have f16 := F15.out.grow hG2
                      obtain ⟨l1, hl1⟩ : ∃ l1 : List UInt8, l1 = List.replicate LW.length 1 ++ List.replicate 70 3 := ⟨_, rfl⟩
                      obtain ⟨l2, hl2⟩ : ∃ l2 : List UInt8, l2 = List.replicate LW.length 2 ++ List.replicate 70 4 := ⟨_, rfl⟩
                      rw [← hl1, ← hl2] at f16
                      have M1 := Lib.hid (show Marks l1 LW.length 1 3 from by rw [hl1]; exact marks_rep _ _ _ _)
                      have M2 := Lib.hid (show Marks l2 LW.length 2 4 from by rw [hl2]; exact marks_rep _ _ _ _)
                      have hl1l : l1.length ≤ 1048700 := by rw [hl1]; simp only [List.length_append, List.length_replicate]; omega
                      have hl2l : l2.length ≤ 1048700 := by rw [hl2]; simp only [List.length_append, List.length_replicate]; omega
                      obtain ⟨A32, c32, rfl, _, _⟩ := f16.rws.head.slice
                      obtain ⟨A31, c31, rfl, _, _⟩ := f16.rws.tail.head.slice
                      have F16 := Lib.hid f16
                      clear hG hG2 hJ7 hw16 F15 f16 hl1 hl2
                      go_wp2_with fail
                      have hr1 := F16.out.rws.tail.head.reads
                      refine (marked_any 1 3 (by decide) (by decide) hr1 (by omega) M1.out).mono ?_
                      rintro e w' ⟨rfl, rfl⟩
                      clear hr1
                      go_wp2_with fail
                      have hr1 := F16.out.rws.head.reads
                      refine (marked_any 2 4 (by decide) (by decide) hr1 (by omega) M2.out).mono ?_
                      rintro e w' ⟨rfl, rfl⟩
                      clear hr1
                      go_wp2_with fail
                      have hr1 := F16.out.rws.tail.tail.tail.head.reads
                      refine (whole_any hr1 (Nat.le_refl _) ((HR.out.below F16.out.rws.bel).more F16.out.rws.bel.size) (by omega) HLA.out).mono ?_
                      clear hr1
                      rintro e w17 ⟨rfl, hb⟩
                      have F17 := Lib.hid (F16.out.go hb)
                      have t3 := F17.out.kt.cell 3
                      simp at t3
                      clear hb F16
                      go_wp2_with fail
                      have hr1 := F17.out.rws.tail.tail.head.reads
                      refine (whole_any hr1 (Nat.le_refl _) ((HP.out.below F17.out.rws.bel).more F17.out.rws.bel.size) (by show p.length ≤ _; omega) HLM.out).mono ?_
                      clear hr1
                      rintro e w18 ⟨rfl, hb⟩
                      have F18 := Lib.hid (show FSt w w18 T0 U #[.int .i64 K, .int .u64 v, .int .i64 n, .slice A' p.length c'] #[.int .i64 K, .int .u64 v, .int .i64 n, .slice Am p.length cm] [(.slice Aa LA.length ca, LA), (.slice Am LM.length cm, LM)] from by have h := F17.out.go hb; exact ⟨h.rws.tail.tail.swap, h.kt, h.ku⟩)
                      clear hb F17 t3 M1 M2
                      go_wp2
                      go_loopw [127] (fun i wr => ∃ (I : Nat) (L' : List UInt8), i = .int .i64 I ∧ I ≤ b.length ∧ Hid (L'.length = LA.length) ∧ Hid (BOwns wr w.heap.size (.slice Aa LA.length ca) L') ∧ Hid (Keeps (fun k => some k = (Value.slice Aa LA.length ca).ownBlock) w18 wr)) (fun i _ => b.length - (intOf i).toNat)
                      case atStart => exact ⟨0, LA, rfl, by omega, Lib.hid rfl, Lib.hid F18.out.rws.head, Lib.hid (Keeps.refl _ _)⟩
                      case round =>
                        obtain ⟨I, L', rfl, hI, hL', hO, hK2⟩ := hrel
                        by_cases hlt2 : (I : Int) < b.length
                        · have hIl : I < L'.length := by rw [hL'.out]; omega
                          obtain ⟨gx, rfl, _, _, hfz, hc⟩ := hO.out.block (by omega)
                          have c1 := hc I hIl
                          have f1 := hfz I
                          obtain ⟨x, hx⟩ : ∃ x, x = L'[I] := ⟨_, rfl⟩
                          rw [← hx] at c1
                          obtain ⟨y, hy⟩ : ∃ y : UInt8, ((x.toNat : Int) + 1) % 256 = (y.toNat : Int) := ⟨UInt8.ofNat ((x.toNat + 1) % 256), by rw [u8_int _ (by omega)]; omega⟩
                          have hy2 : IntKind.u8.wrap ((x.toNat : Int) + 1) = (y.toNat : Int) := by rw [IntKind.wrap_u8]; exact hy
                          have HO := Lib.hid (hO.out.store (i := I) hIl y)
                          have HL := Lib.hid (show (L'.set I y).length = LA.length from by rw [List.length_set]; exact hL'.out)
                          have HK := Lib.hid (hK2.out.setCell (p := ⟨gx, I, none⟩) (.inl rfl) (.int .u8 (y.toNat : Int)))
                          clear hfz hc hx hO hK2 hL' hIl
                          go_wp2
                          exact ⟨⟨I + 1, _, by go_num, by omega, HL, HO, HK⟩, by simp [intOf]; omega⟩
                        · obtain ⟨w19, hw19⟩ : ∃ w19, w19 = wr := ⟨_, rfl⟩
                          rw [← hw19] at hO hK2 ⊢
                          have F19 := Lib.hid (F18.out.fill hO.out hK2.out)
                          obtain ⟨b2, hb2⟩ : ∃ b2, b2 = L'.take b.length := ⟨_, rfl⟩
                          have hb2l : b2.length = b.length := by rw [hb2, List.length_take, hL'.out]; omega
                          have hin := Lib.hid (show BReads w19 w19.heap.size Aa b2 from by
                            have h1 := F19.out.rws.head.reads
                            rw [← List.take_append_drop b.length L', ← hb2] at h1
                            exact reads_left h1)
                          have hmo := Lib.hid (show BReads w19 w19.heap.size Am p from reads_left (by have := F19.out.rws.tail.head.reads; rw [HLM.out] at this; exact this))
                          have hla := laid_any (w := w19.drew) (c := ca) (c' := cm) ⟨(K : Int), v, n, p⟩ (HOK.out K) hin.out hmo.out (by show b2.length + p.length ≤ _; omega)
                          have hwl : ∀ w20, Below w19.heap.size w19 w20 → Calls Try.prog 32 #[.slice Aa b.length ca, .agg (Th.cells ⟨(K : Int), v, n, p⟩ A' c')] w20 (GivesB w20 (b2 ++ Th.bytes ⟨(K : Int), v, n, p⟩)) := fun w20 hb => by
                            have h := wantLaid_any (w := w20) (c := ca) (c' := c') ⟨(K : Int), v, n, p⟩ (HOK.out K) ((hin.out.below hb).more hb.size) ((HP.out.below (F19.out.rws.bel.trans (hb.mono F19.out.rws.bel.size))).more (F19.out.rws.bel.trans (hb.mono F19.out.rws.bel.size)).size) (by show b2.length + p.length ≤ _; omega)
                            rw [hb2l] at h
                            exact h
                          rw [hb2l] at hla
                          have HLA2 := Lib.hid hla
                          have HWL := Lib.hid hwl
                          have hll : (b2 ++ Th.bytes ⟨(K : Int), v, n, p⟩).length ≤ 2000000 := by rw [List.length_append, hb2l, ← HTB.out]; omega
                          have HLL := Lib.hid hll
                          clear hO hK2 hw19 F18 hL' hb2 hb2l hla hwl hll
                          go_wp2
                          have x0 := F19.out.ku.cell 0
                          have x1 := F19.out.ku.cell 1
                          have x2 := F19.out.ku.cell 2
                          have x3 := F19.out.ku.cell 3
                          have t0 := F19.out.kt.cell 0
                          have t1 := F19.out.kt.cell 1
                          have t2 := F19.out.kt.cell 2
                          have t3 := F19.out.kt.cell 3
                          simp at x0 x1 x2 x3 t0 t1 t2 t3
                          go_region_held3 (fun w' => w'.cell? ⟨U, 0, none⟩ = some (.int .i64 K) ∧ w'.cell? ⟨U, 1, none⟩ = some (.int .u64 v) ∧ w'.cell? ⟨U, 2, none⟩ = some (.int .i64 n) ∧ w'.cell? ⟨U, 3, none⟩ = some (.slice Am p.length cm) ∧ w'.cell? ⟨T0, 0, none⟩ = some (.int .i64 K) ∧ w'.cell? ⟨T0, 1, none⟩ = some (.int .u64 v) ∧ w'.cell? ⟨T0, 2, none⟩ = some (.int .i64 n) ∧ w'.cell? ⟨T0, 3, none⟩ = some (.slice A' p.length c')) (first | exact ⟨x0, x1, x2, x3, t0, t1, t2, t3⟩ | exact ⟨y0, y1, y2, y3, y4, y5, y6, y7⟩ | exact ⟨z0, z1, z2, z3, z4, z5, z6, z7⟩ | exact ⟨q0, q1, q2, q3, q4, q5, q6, q7⟩) (first | (go_at_call 33; refine HLA2.out.mono ?_; rintro e w20 h; obtain ⟨L20, A20, c20, rfl, E20, _, Q20, B20⟩ := h.named; have HB20 := Lib.hid (show Below w19.heap.size w19 w20 from ⟨B20.out.os, B20.out.tape, B20.out.output, B20.out.size, B20.out.block⟩); have F20 := Lib.hid (F19.out.go HB20.out); have y0 := F20.out.ku.cell 0; have y1 := F20.out.ku.cell 1; have y2 := F20.out.ku.cell 2; have y3 := F20.out.ku.cell 3; have y4 := F20.out.kt.cell 0; have y5 := F20.out.kt.cell 1; have y6 := F20.out.kt.cell 2; have y7 := F20.out.kt.cell 3; simp at y0 y1 y2 y3 y4 y5 y6 y7; clear h B20) | (go_at_call 32; refine (HWL.out _ HB20.out).mono ?_; rintro e w21 h; obtain ⟨L21, A21, c21, rfl, E21, _, Q21, B21⟩ := h.named; have he : L21 = L20 := (by rw [E21.out, E20.out]); subst he; have F21 := Lib.hid (F20.out.go B21.out); have Q20b := Lib.hid (Q20.out.below B21.out); have z0 := F21.out.ku.cell 0; have z1 := F21.out.ku.cell 1; have z2 := F21.out.ku.cell 2; have z3 := F21.out.ku.cell 3; have z4 := F21.out.kt.cell 0; have z5 := F21.out.kt.cell 1; have z6 := F21.out.kt.cell 2; have z7 := F21.out.kt.cell 3; simp at z0 z1 z2 z3 z4 z5 z6 z7; clear h) | (go_at_call 19; refine (equal_any Q20b.out Q21.out (by rw [E21.out]; have := HLL.out; omega)).mono ?_; rintro e w22 ⟨rfl, k, hk⟩; rw [show decide (L21 = L21) = true from by simp]; have F22 := Lib.hid (show FSt w w22 T0 U #[.int .i64 K, .int .u64 v, .int .i64 n, .slice A' p.length c'] #[.int .i64 K, .int .u64 v, .int .i64 n, .slice Am p.length cm] [(.slice Aa LA.length ca, L'), (.slice Am LM.length cm, LM)] from by rw [hk]; exact F21.out.go (below_drewN (Below.refl _ _) k)); have q0 := F22.out.ku.cell 0; have q1 := F22.out.ku.cell 1; have q2 := F22.out.ku.cell 2; have q3 := F22.out.ku.cell 3; have q4 := F22.out.kt.cell 0; have q5 := F22.out.kt.cell 1; have q6 := F22.out.kt.cell 2; have q7 := F22.out.kt.cell 3; simp at q0 q1 q2 q3 q4 q5 q6 q7; clear hk))
                          have HZ1 := Lib.hid F22.out.kt
                          have HZ2 := Lib.hid F22.out.rws.bel
                          clear x0 x1 x2 x3 t0 t1 t2 t3 y0 y1 y2 y3 y4 y5 y6 y7 z0 z1 z2 z3 z4 z5 z6 z7 q0 q1 q2 q3 q4 q5 q6 q7 F19 F20 F21 F22
                          go_wp2
                          exact ⟨⟨K + 1, _, by go_num, by omega, HZ1, HZ2⟩, by simp [intOf]; omega⟩
    · go_wp2_with fail
      refine codecFixed_any.mono ?_
      rintro e w2 ⟨rfl, hb⟩
      have B2 := Lib.hid (hB.out.trans (hb.mono hB.out.size))
      clear hb
      go_wp2
      go_ret
      exact ⟨rfl, B2.out⟩
end Go.Proofs.Ytoeccclaaogihaa
