/- Contracts and plain laws that this claim leans on, laid together: Ent8. -/
import Derived.Test.YtmnpchncmbnddaaGreatG08
import Derived.Test.YtmnpchncmbnddaaGreatG03
import Derived.Test.YtmnpchncmbnddaaGreatG04
set_option linter.all false
set_option linter.unusedVariables false
set_option linter.unusedSimpArgs false
set_option linter.unnecessarySimpa false
/- Decode of package entry, by contract (printed by a program of this claim's own). -/
namespace Go.Proofs.YtmnpchncmbnddaaGreat
open Go.RowKit

/-- The reader and the two entries in memory while bytes are read. -/
structure DSt (w0 w : World) (R g E : Nat) (r : Rd) (cs : Array Value) : Prop where
  bel : Below w0.heap.size w0 w
  res : Blk w R 105 #[.int .i64 0, .int .i64 0, .int .i64 0, .string ⟨#[]⟩, .slice none 0 0, .bool false]
  ent : Blk w E 105 cs
  rd : RdIs w g r
  o1 : w0.heap.size ≤ R
  o2 : R < g
  o3 : g < E
section
variable {w0 w w' : World} {R g E : Nat} {r r' : Rd} {cs : Array Value}
theorem DSt.read (h : DSt w0 w R g E r cs) (hr : RdIs w' g r') (hk : Keeps (fun k => k = g) w w') : DSt w0 w' R g E r' cs :=
  ⟨h.bel.trans (hk.below h.bel.size (fun i hi => by have := h.o1; have := h.o2; omega)), h.res.keeps hk (by have := h.o2; omega), h.ent.keeps hk (by have := h.o3; omega), hr, h.o1, h.o2, h.o3⟩
theorem DSt.set (h : DSt w0 w R g E r cs) (i : Nat) (u : Value) : DSt w0 (w.setCell ⟨E, i, none⟩ u) R g E r (cs.setIfInBounds i u) :=
  ⟨h.bel.setCell (by show w0.heap.size ≤ E; have := h.o1; have := h.o2; have := h.o3; omega) _, h.res.far (p := ⟨E, i, none⟩) (by have := h.o2; have := h.o3; show ¬ R = E; omega) _, h.ent.set_ i u,
    h.rd.keeps ((Keeps.refl (fun k => k = E) w).setCell (p := ⟨E, i, none⟩) (.inl rfl) u) (fun j hj => by have := h.o3; omega), h.o1, h.o2, h.o3⟩
theorem DSt.go (h : DSt w0 w R g E r cs) (hb : Below w.heap.size w w') : DSt w0 w' R g E r cs :=
  ⟨h.bel.trans (hb.mono h.bel.size), h.res.below' hb, h.ent.below' hb, h.rd.below hb, h.o1, h.o2, h.o3⟩
end
/-- The bytes that a reading answered, while an entry's cells are written. -/
theorem BOwns.setE {w0 w : World} {R g E base : Nat} {r : Rd} {cs : Array Value} {v : Value} {l : List UInt8} (h : DSt w0 w R g E r cs) (ho : BOwns w base v l) (i : Nat) (u : Value) : BOwns (w.setCell ⟨E, i, none⟩ u) base v l :=
  ho.farBlk h.ent (by decide) ((Keeps.refl (fun k => k = E) w).setCell (p := ⟨E, i, none⟩) (.inl rfl) u)
set_option maxRecDepth 100000 in
set_option maxHeartbeats 6400000 in
theorem dec1_any {w : World} {A : Option Addr} {c : Nat} {b : List UInt8} (hr : BReads w w.heap.size A b) (hl : b.length ≤ 140737488355328) (hkk : (Rd.take ⟨b, 0, 0⟩ 1).1 = 1) :
    Calls Tryz.prog 91 #[.slice A b.length c] w (DecPost w b) := by
  have HB := Lib.hid hr
  have BA := Lib.hid ((Below.refl w.heap.size w).alloc (Nat.le_refl _) (.cells #[.int .i64 0, .int .i64 0, .int .i64 0, .string ⟨#[]⟩, .slice none 0 0, .bool false] 105))
  have KR := Lib.hid (Blk.new w 105 #[.int .i64 0, .int .i64 0, .int .i64 0, .string ⟨#[]⟩, .slice none 0 0, .bool false])
  clear hr
  go_enter Tryz.func91, Tryz.ntmps91
  go_wp2_with fail
  obtain ⟨W, hW⟩ : ∃ x, x = w.alloc (.cells #[.int .i64 0, .int .i64 0, .int .i64 0, .string ⟨#[]⟩, .slice none 0 0, .bool false] 105) := ⟨_, rfl⟩
  obtain ⟨R, hR⟩ : ∃ x, x = w.heap.size := ⟨_, rfl⟩
  have hRw : w.heap.size ≤ R := by omega
  rw [← hW, ← hR] at KR
  rw [← hW] at BA
  rw [← hW, ← hR]
  clear hW hR
  refine (open_any (HB.out.below BA.out) (by omega)).mono ?_
  rintro e w1 h
  obtain ⟨g, rfl, hg, hrd, hb⟩ := h.out
  have KR1 := Lib.hid (KR.out.below' hb)
  have hgR : R < g := by have := KR.out.lt; omega
  have B1 := Lib.hid (BA.out.trans (hb.mono BA.out.size))
  have R1 := Lib.hid hrd
  clear h hb hrd KR BA hg
  go_wp2_with fail
  have hx := rdTake8_any R1.out
  obtain ⟨⟨k, r1⟩, hh⟩ : ∃ x, x = Rd.take ⟨b, 0, 0⟩ 1 := ⟨_, rfl⟩
  have HT0 := Lib.hid hh.symm
  obtain rfl : k = 1 := by rw [← hh] at hkk; exact hkk
  rw [← hh] at hx
  clear hh hkk
  refine hx.mono ?_
  rintro e w2 ⟨ha, hr, hk⟩
  obtain rfl : e = .returned (.int .u8 1) := ha
  have B2 := Lib.hid (B1.out.trans (hk.below B1.out.size (fun i hi => by omega)))
  have KR2 := Lib.hid (KR1.out.keeps hk (by omega))
  have RR2 := Lib.hid hr
  clear hx hr hk B1 KR1 R1
  go_wp2_with fail
  have hCE : ∀ kk : Int, DSt w (w2.alloc (.cells #[.int .i64 kk, .int .i64 0, .int .i64 0, .string ⟨#[]⟩, .slice none 0 0, .bool false] 105)) R g w2.heap.size r1 #[.int .i64 kk, .int .i64 0, .int .i64 0, .string ⟨#[]⟩, .slice none 0 0, .bool false] := fun kk =>
    ⟨B2.out.alloc B2.out.size _, KR2.out.alloc _, Blk.new _ _ _, RR2.out.below ((Below.refl _ _).alloc (Nat.le_refl _) _), hRw, hgR, RR2.out.lt⟩
  have HCE := Lib.hid hCE
  clear hCE
  obtain ⟨E, hE⟩ : ∃ x, x = w2.heap.size := ⟨_, rfl⟩
  rw [← hE] at HCE ⊢
  clear hE B2 KR2 RR2
  have D3 := Lib.hid (HCE.out 1)
  obtain ⟨w3, hw3⟩ : ∃ x, x = w2.alloc (.cells #[.int .i64 1, .int .i64 0, .int .i64 0, .string ⟨#[]⟩, .slice none 0 0, .bool false] 105) := ⟨_, rfl⟩
  rw [← hw3] at D3 ⊢
  clear hw3 HCE
  refine (fields_any 1).mono ?_
  rintro e w3' ⟨rfl, rfl⟩
  rw [show fieldsF 1 = 17 from rfl]
  have b1 := and_17_1
  have b2 := and_17_2
  have b4 := and_17_4
  have b8 := and_17_8
  have b16 := and_17_16
  have q0 := D3.out.ent.cell 0
  have f0 := D3.out.ent.frozen 0
  have q1 := D3.out.ent.cell 1
  have f1 := D3.out.ent.frozen 1
  have q2 := D3.out.ent.cell 2
  have f2 := D3.out.ent.frozen 2
  have q3 := D3.out.ent.cell 3
  have f3 := D3.out.ent.frozen 3
  have q4 := D3.out.ent.cell 4
  have f4 := D3.out.ent.frozen 4
  have q5 := D3.out.ent.cell 5
  have f5 := D3.out.ent.frozen 5
  simp at q0 q1 q2 q3 q4 q5
  go_wp2_with fail
  have hx := rdText_any D3.out.rd 255
  obtain ⟨⟨p1, r2⟩, hh⟩ : ∃ x, x = r1.bytes 255 := ⟨_, rfl⟩
  have Hr2 := Lib.hid hh.symm
  rw [← hh] at hx
  clear hh
  refine hx.mono ?_
  rintro e w4 ⟨ha, hr, hk⟩
  simp only at ha hr
  obtain ⟨key, hkey⟩ : ∃ s : ByteArray, s = ⟨p1.toArray⟩ := ⟨_, rfl⟩
  obtain rfl : e = .returned (.string key) := by rw [hkey]; exact ha
  have HKEY := Lib.hid hkey
  clear hkey
  have D4' := Lib.hid (D3.out.read hr hk)
  have D4 := Lib.hid (show DSt w (w4.setCell ⟨E, 3, none⟩ (.string key)) R g E r2 #[.int .i64 1, .int .i64 0, .int .i64 0, .string key, .slice none 0 0, .bool false] from by simpa using D4'.out.set 3 (.string key))
  clear hx hr hk ha D3
  clear q0 q1 q2 q3 q4 q5 f0 f1 f2 f3 f4 f5
  have q0 := D4'.out.ent.cell 0
  have f0 := D4'.out.ent.frozen 0
  have q1 := D4'.out.ent.cell 1
  have f1 := D4'.out.ent.frozen 1
  have q2 := D4'.out.ent.cell 2
  have f2 := D4'.out.ent.frozen 2
  have q3 := D4'.out.ent.cell 3
  have f3 := D4'.out.ent.frozen 3
  have q4 := D4'.out.ent.cell 4
  have f4 := D4'.out.ent.frozen 4
  have q5 := D4'.out.ent.cell 5
  have f5 := D4'.out.ent.frozen 5
  simp at q0 q1 q2 q3 q4 q5
  obtain ⟨X4, hX4⟩ : ∃ x, x = w4.setCell ⟨E, 3, none⟩ (.string key) := ⟨_, rfl⟩
  rw [← hX4] at D4
  have hE4 := Lib.hid hX4
  clear hX4 D4'
  go_wp2_with fail
  rw [← hE4.out]
  clear hE4 q0 q1 q2 q3 q4 q5 f0 f1 f2 f3 f4 f5
  have hx := rdBytes_any D4.out.rd 4096
  obtain ⟨⟨p2, r3⟩, hh⟩ : ∃ x, x = r2.bytes 4096 := ⟨_, rfl⟩
  have Hr3 := Lib.hid hh.symm
  rw [← hh] at hx
  clear hh
  refine hx.mono ?_
  rintro e w5 ⟨ha, hr, hk⟩
  simp only at ha hr
  obtain ⟨v, rfl, ho⟩ := ha
  obtain ⟨Av, cv, rfl, _, _⟩ := BOwns.slice ho
  have D5' := Lib.hid (D4.out.read hr hk)
  have D5 := Lib.hid (show DSt w (w5.setCell ⟨E, 4, none⟩ (.slice Av p2.length cv)) R g E r3 #[.int .i64 1, .int .i64 0, .int .i64 0, .string key, .slice Av p2.length cv, .bool false] from by simpa using D5'.out.set 4 (.slice Av p2.length cv))
  have OV := Lib.hid (BOwns.setE D5'.out (owns_less ho D4.out.bel.size) 4 (.slice Av p2.length cv))
  clear ho
  clear hx hr hk D4
  have q0 := D5'.out.ent.cell 0
  have f0 := D5'.out.ent.frozen 0
  have q1 := D5'.out.ent.cell 1
  have f1 := D5'.out.ent.frozen 1
  have q2 := D5'.out.ent.cell 2
  have f2 := D5'.out.ent.frozen 2
  have q3 := D5'.out.ent.cell 3
  have f3 := D5'.out.ent.frozen 3
  have q4 := D5'.out.ent.cell 4
  have f4 := D5'.out.ent.frozen 4
  have q5 := D5'.out.ent.cell 5
  have f5 := D5'.out.ent.frozen 5
  simp at q0 q1 q2 q3 q4 q5
  obtain ⟨X5, hX5⟩ : ∃ x, x = w5.setCell ⟨E, 4, none⟩ (.slice Av p2.length cv) := ⟨_, rfl⟩
  rw [← hX5] at D5
  rw [← hX5] at OV
  have hE5 := Lib.hid hX5
  clear hX5 D5'
  have HTL := Lib.hid (show Tells b ⟨1, 0, 0, key, p2, false⟩ r3 from by have h := dec_1 HT0.out Hr2.out Hr3.out; rw [← HKEY.out] at h; exact h)
  have HKS := Lib.hid (show key.size ≤ b.length from by
    have h := r1.bytes_len 255
    rw [Hr2.out] at h
    have hl1 : r1.l = b := by have := Rd.step_l ⟨b, 0, 0⟩ 0 (takeF 1 (b.drop 0)); rw [show Rd.step ⟨b, 0, 0⟩ 0 (takeF 1 (b.drop 0)) = _ from HT0.out] at this; exact this
    rw [hl1] at h
    rw [HKEY.out]; exact h)
  have HVL := Lib.hid (show p2.length ≤ b.length from by
    have hl1 : r1.l = b := by have := Rd.step_l ⟨b, 0, 0⟩ 0 (takeF 1 (b.drop 0)); rw [show Rd.step ⟨b, 0, 0⟩ 0 (takeF 1 (b.drop 0)) = _ from HT0.out] at this; exact this
    have hr2 : r2.l = b := by have := Rd.step_l r1 [] (blockF 255 (r1.l.drop r1.at_)); rw [show Rd.step r1 [] (blockF 255 (r1.l.drop r1.at_)) = _ from Hr2.out] at this; exact this.trans hl1
    have h := r2.bytes_len 4096
    rw [Hr3.out] at h
    rw [hr2] at h
    exact h)
  go_wp2_with fail
  rw [← hE5.out]
  clear hE5 q0 q1 q2 q3 q4 q5 f0 f1 f2 f3 f4 f5
  have hbl : BReads X5 w.heap.size A b := HB.out.below D5.out.bel
  have HBX := Lib.hid hbl
  clear hbl
  refine (encode_any (A := Av) (c := cv) ⟨1, 0, 0, key, p2, false⟩ (BOwns.reads OV.out) (by show key.size ≤ _; have := HKS.out; omega) (by show p2.length ≤ _; have := HVL.out; omega)).mono ?_
  rintro e w20 h
  rcases h with ⟨hm, v', rfl, ho, hb⟩ | ⟨hm, rfl, hb⟩
  · obtain ⟨A5, c5, rfl, _, hr5⟩ := BOwns.slice ho
    have D20 := Lib.hid (D5.out.go hb)
    have HM := Lib.hid hm
    have R5 := Lib.hid hr5
    have HB20 := Lib.hid (HB.out.below D20.out.bel)
    have OV20 := Lib.hid (BOwns.below OV.out hb)
    obtain ⟨LE, hLE⟩ : ∃ L, L = En.enc ⟨1, 0, 0, key, p2, false⟩ := ⟨_, rfl⟩
    rw [← hLE] at R5 ⊢
    have HLE := Lib.hid hLE
    clear ho hb hr5 hm hLE
    go_wp2_with fail
    by_cases hend : r3.end_ = 0
    · have HEND := Lib.hid hend
      have hea := end_any D20.out.rd
      rw [hend] at hea
      clear hend
      refine hea.mono ?_
      rintro e w21 ⟨rfl, m, hw21⟩
      have D21 := Lib.hid (show DSt w w21 R g E r3 _ from by rw [hw21]; exact D20.out.go (below_drewN (Below.refl _ _) m))
      have HB21 := Lib.hid (HB.out.below D21.out.bel)
      have R521 := Lib.hid (show BReads w21 w20.heap.size A5 LE from by rw [hw21]; exact R5.out)
      have OV21 := Lib.hid (show BOwns w21 w.heap.size (.slice Av p2.length cv) p2 from by rw [hw21]; exact BOwns.below OV20.out (below_drewN (Below.refl _ _) m))
      clear hea hw21 D20 R5
      go_wp2_with fail
      by_cases heq : LE = b
      · refine (bytesEqual_any R521.out HB21.out).mono ?_
        rintro e w22 ⟨rfl, rfl⟩
        rw [decide_eq_true heq]
        have HEQ := Lib.hid heq
        clear heq
        have q0 := D21.out.ent.cell 0
        have q1 := D21.out.ent.cell 1
        have q2 := D21.out.ent.cell 2
        have q3 := D21.out.ent.cell 3
        have q4 := D21.out.ent.cell 4
        have q5 := D21.out.ent.cell 5
        have z0 := D21.out.res.cell 0
        have g0 := D21.out.res.frozen 0
        have z1 := D21.out.res.cell 1
        have g1 := D21.out.res.frozen 1
        have z2 := D21.out.res.cell 2
        have g2 := D21.out.res.frozen 2
        have z3 := D21.out.res.cell 3
        have g3 := D21.out.res.frozen 3
        have z4 := D21.out.res.cell 4
        have g4 := D21.out.res.frozen 4
        have z5 := D21.out.res.cell 5
        have g5 := D21.out.res.frozen 5
        simp at q0 q1 q2 q3 q4 q5 z0 z1 z2 z3 z4 z5
        have us := 0
        have KR3 := Lib.hid (D21.out.res.put6 (.int .i64 1) (.int .i64 0) (.int .i64 0) (.string key) (.slice Av p2.length cv) (.bool false))
        have B3 := Lib.hid (D21.out.bel.trans ((keeps_set6 w21 R (.int .i64 1) (.int .i64 0) (.int .i64 0) (.string key) (.slice Av p2.length cv) (.bool false)).below D21.out.bel.size (fun i hi => by rw [hi]; exact D21.out.o1)))
        have OV3 := Lib.hid (OV21.out.farBlk D21.out.res (by decide) (keeps_set6 w21 R (.int .i64 1) (.int .i64 0) (.int .i64 0) (.string key) (.slice Av p2.length cv) (.bool false)))
        go_wp2
        unfold set6 at KR3 B3 OV3
        have y0 := KR3.out.cell 0
        have y1 := KR3.out.cell 1
        have y2 := KR3.out.cell 2
        have y3 := KR3.out.cell 3
        have y4 := KR3.out.cell 4
        have y5 := KR3.out.cell 5
        simp only [List.getElem?_toArray, List.getElem?_cons_zero, List.getElem?_cons_succ] at y0 y1 y2 y3 y4 y5
        exact bodyPost_ret (v := .tuple #[.agg #[.int .i64 1, .int .i64 0, .int .i64 0, .string key, .slice Av p2.length cv, .bool false], .int .i64 0]) (by simp [results, Tryz.results91, go_sem, y0, y1, y2, y3, y4, y5]) rfl (.inl ⟨⟨1, 0, 0, key, p2, false⟩, HM.out, by rw [← HLE.out]; exact HEQ.out, Av, cv, rfl, OV3.out, B3.out⟩)
      · refine (bytesEqual_any R521.out HB21.out).mono ?_
        rintro e w22 ⟨rfl, rfl⟩
        rw [decide_eq_false heq]
        have HNO := Lib.hid (HTL.out.no (fun h => heq (by rw [HLE.out]; exact h.2.1)))
        clear heq
        have z0 := D21.out.res.cell 0
        have g0 := D21.out.res.frozen 0
        have z1 := D21.out.res.cell 1
        have g1 := D21.out.res.frozen 1
        have z2 := D21.out.res.cell 2
        have g2 := D21.out.res.frozen 2
        have z3 := D21.out.res.cell 3
        have g3 := D21.out.res.frozen 3
        have z4 := D21.out.res.cell 4
        have g4 := D21.out.res.frozen 4
        have z5 := D21.out.res.cell 5
        have g5 := D21.out.res.frozen 5
        simp at z0 z1 z2 z3 z4 z5
        have KR3 := Lib.hid (D21.out.res.put6 (.int .i64 0) (.int .i64 0) (.int .i64 0) (.string ⟨#[]⟩) (.slice none 0 0) (.bool false))
        have B3 := Lib.hid (D21.out.bel.trans ((keeps_set6 w21 R (.int .i64 0) (.int .i64 0) (.int .i64 0) (.string ⟨#[]⟩) (.slice none 0 0) (.bool false)).below D21.out.bel.size (fun i hi => by rw [hi]; exact D21.out.o1)))
        go_wp2
        unfold set6 at KR3 B3
        have y0 := KR3.out.cell 0
        have y1 := KR3.out.cell 1
        have y2 := KR3.out.cell 2
        have y3 := KR3.out.cell 3
        have y4 := KR3.out.cell 4
        have y5 := KR3.out.cell 5
        simp only [List.getElem?_toArray, List.getElem?_cons_zero, List.getElem?_cons_succ] at y0 y1 y2 y3 y4 y5
        exact bodyPost_ret (v := .tuple #[.agg #[.int .i64 0, .int .i64 0, .int .i64 0, .string ⟨#[]⟩, .slice none 0 0, .bool false], .int .i64 100]) (by simp [results, Tryz.results91, go_sem, y0, y1, y2, y3, y4, y5]) rfl (.inr ⟨HNO.out, rfl, B3.out⟩)
    · have HNO := Lib.hid (HTL.out.no (fun h => hend h.2.2))
      have hnz : (r3.end_ != 0) = true := by rw [bne_iff_ne]; exact hend
      clear hend
      refine (end_any D20.out.rd).mono ?_
      rintro e w21 ⟨rfl, m, hw21⟩
      have D21 := Lib.hid (show DSt w w21 R g E r3 _ from by rw [hw21]; exact D20.out.go (below_drewN (Below.refl _ _) m))
      clear hw21
      have z0 := D21.out.res.cell 0
      have g0 := D21.out.res.frozen 0
      have z1 := D21.out.res.cell 1
      have g1 := D21.out.res.frozen 1
      have z2 := D21.out.res.cell 2
      have g2 := D21.out.res.frozen 2
      have z3 := D21.out.res.cell 3
      have g3 := D21.out.res.frozen 3
      have z4 := D21.out.res.cell 4
      have g4 := D21.out.res.frozen 4
      have z5 := D21.out.res.cell 5
      have g5 := D21.out.res.frozen 5
      simp at z0 z1 z2 z3 z4 z5
      have KR3 := Lib.hid (D21.out.res.put6 (.int .i64 0) (.int .i64 0) (.int .i64 0) (.string ⟨#[]⟩) (.slice none 0 0) (.bool false))
      have B3 := Lib.hid (D21.out.bel.trans ((keeps_set6 w21 R (.int .i64 0) (.int .i64 0) (.int .i64 0) (.string ⟨#[]⟩) (.slice none 0 0) (.bool false)).below D21.out.bel.size (fun i hi => by rw [hi]; exact D21.out.o1)))
      go_wp2
      unfold set6 at KR3 B3
      have y0 := KR3.out.cell 0
      have y1 := KR3.out.cell 1
      have y2 := KR3.out.cell 2
      have y3 := KR3.out.cell 3
      have y4 := KR3.out.cell 4
      have y5 := KR3.out.cell 5
      simp only [List.getElem?_toArray, List.getElem?_cons_zero, List.getElem?_cons_succ] at y0 y1 y2 y3 y4 y5
      exact bodyPost_ret (v := .tuple #[.agg #[.int .i64 0, .int .i64 0, .int .i64 0, .string ⟨#[]⟩, .slice none 0 0, .bool false], .int .i64 100]) (by simp [results, Tryz.results91, go_sem, y0, y1, y2, y3, y4, y5]) rfl (.inr ⟨HNO.out, rfl, B3.out⟩)
  · have D20 := Lib.hid (D5.out.go hb)
    have HNO := Lib.hid (HTL.out.no (fun h => hm h.1))
    clear hb hm
    go_wp2_with fail
    by_cases hend : r3.end_ = 0
    · have hea := end_any D20.out.rd
      rw [hend] at hea
      clear hend
      refine hea.mono ?_
      rintro e w21 ⟨rfl, m, hw21⟩
      have D21 := Lib.hid (show DSt w w21 R g E r3 _ from by rw [hw21]; exact D20.out.go (below_drewN (Below.refl _ _) m))
      clear hw21 hea
      have z0 := D21.out.res.cell 0
      have g0 := D21.out.res.frozen 0
      have z1 := D21.out.res.cell 1
      have g1 := D21.out.res.frozen 1
      have z2 := D21.out.res.cell 2
      have g2 := D21.out.res.frozen 2
      have z3 := D21.out.res.cell 3
      have g3 := D21.out.res.frozen 3
      have z4 := D21.out.res.cell 4
      have g4 := D21.out.res.frozen 4
      have z5 := D21.out.res.cell 5
      have g5 := D21.out.res.frozen 5
      simp at z0 z1 z2 z3 z4 z5
      have KR3 := Lib.hid (D21.out.res.put6 (.int .i64 0) (.int .i64 0) (.int .i64 0) (.string ⟨#[]⟩) (.slice none 0 0) (.bool false))
      have B3 := Lib.hid (D21.out.bel.trans ((keeps_set6 w21 R (.int .i64 0) (.int .i64 0) (.int .i64 0) (.string ⟨#[]⟩) (.slice none 0 0) (.bool false)).below D21.out.bel.size (fun i hi => by rw [hi]; exact D21.out.o1)))
      go_wp2
      unfold set6 at KR3 B3
      have y0 := KR3.out.cell 0
      have y1 := KR3.out.cell 1
      have y2 := KR3.out.cell 2
      have y3 := KR3.out.cell 3
      have y4 := KR3.out.cell 4
      have y5 := KR3.out.cell 5
      simp only [List.getElem?_toArray, List.getElem?_cons_zero, List.getElem?_cons_succ] at y0 y1 y2 y3 y4 y5
      exact bodyPost_ret (v := .tuple #[.agg #[.int .i64 0, .int .i64 0, .int .i64 0, .string ⟨#[]⟩, .slice none 0 0, .bool false], .int .i64 100]) (by simp [results, Tryz.results91, go_sem, y0, y1, y2, y3, y4, y5]) rfl (.inr ⟨HNO.out, rfl, B3.out⟩)
    · have hnz : (r3.end_ != 0) = true := by rw [bne_iff_ne]; exact hend
      clear hend
      refine (end_any D20.out.rd).mono ?_
      rintro e w21 ⟨rfl, m, hw21⟩
      have D21 := Lib.hid (show DSt w w21 R g E r3 _ from by rw [hw21]; exact D20.out.go (below_drewN (Below.refl _ _) m))
      clear hw21
      have z0 := D21.out.res.cell 0
      have g0 := D21.out.res.frozen 0
      have z1 := D21.out.res.cell 1
      have g1 := D21.out.res.frozen 1
      have z2 := D21.out.res.cell 2
      have g2 := D21.out.res.frozen 2
      have z3 := D21.out.res.cell 3
      have g3 := D21.out.res.frozen 3
      have z4 := D21.out.res.cell 4
      have g4 := D21.out.res.frozen 4
      have z5 := D21.out.res.cell 5
      have g5 := D21.out.res.frozen 5
      simp at z0 z1 z2 z3 z4 z5
      have KR3 := Lib.hid (D21.out.res.put6 (.int .i64 0) (.int .i64 0) (.int .i64 0) (.string ⟨#[]⟩) (.slice none 0 0) (.bool false))
      have B3 := Lib.hid (D21.out.bel.trans ((keeps_set6 w21 R (.int .i64 0) (.int .i64 0) (.int .i64 0) (.string ⟨#[]⟩) (.slice none 0 0) (.bool false)).below D21.out.bel.size (fun i hi => by rw [hi]; exact D21.out.o1)))
      go_wp2
      unfold set6 at KR3 B3
      have y0 := KR3.out.cell 0
      have y1 := KR3.out.cell 1
      have y2 := KR3.out.cell 2
      have y3 := KR3.out.cell 3
      have y4 := KR3.out.cell 4
      have y5 := KR3.out.cell 5
      simp only [List.getElem?_toArray, List.getElem?_cons_zero, List.getElem?_cons_succ] at y0 y1 y2 y3 y4 y5
      exact bodyPost_ret (v := .tuple #[.agg #[.int .i64 0, .int .i64 0, .int .i64 0, .string ⟨#[]⟩, .slice none 0 0, .bool false], .int .i64 100]) (by simp [results, Tryz.results91, go_sem, y0, y1, y2, y3, y4, y5]) rfl (.inr ⟨HNO.out, rfl, B3.out⟩)
set_option maxRecDepth 100000 in
set_option maxHeartbeats 6400000 in
theorem dec2_any {w : World} {A : Option Addr} {c : Nat} {b : List UInt8} (hr : BReads w w.heap.size A b) (hl : b.length ≤ 140737488355328) (hkk : (Rd.take ⟨b, 0, 0⟩ 1).1 = 2) :
    Calls Tryz.prog 91 #[.slice A b.length c] w (DecPost w b) := by
  have HB := Lib.hid hr
  have BA := Lib.hid ((Below.refl w.heap.size w).alloc (Nat.le_refl _) (.cells #[.int .i64 0, .int .i64 0, .int .i64 0, .string ⟨#[]⟩, .slice none 0 0, .bool false] 105))
  have KR := Lib.hid (Blk.new w 105 #[.int .i64 0, .int .i64 0, .int .i64 0, .string ⟨#[]⟩, .slice none 0 0, .bool false])
  clear hr
  go_enter Tryz.func91, Tryz.ntmps91
  go_wp2_with fail
  obtain ⟨W, hW⟩ : ∃ x, x = w.alloc (.cells #[.int .i64 0, .int .i64 0, .int .i64 0, .string ⟨#[]⟩, .slice none 0 0, .bool false] 105) := ⟨_, rfl⟩
  obtain ⟨R, hR⟩ : ∃ x, x = w.heap.size := ⟨_, rfl⟩
  have hRw : w.heap.size ≤ R := by omega
  rw [← hW, ← hR] at KR
  rw [← hW] at BA
  rw [← hW, ← hR]
  clear hW hR
  refine (open_any (HB.out.below BA.out) (by omega)).mono ?_
  rintro e w1 h
  obtain ⟨g, rfl, hg, hrd, hb⟩ := h.out
  have KR1 := Lib.hid (KR.out.below' hb)
  have hgR : R < g := by have := KR.out.lt; omega
  have B1 := Lib.hid (BA.out.trans (hb.mono BA.out.size))
  have R1 := Lib.hid hrd
  clear h hb hrd KR BA hg
  go_wp2_with fail
  have hx := rdTake8_any R1.out
  obtain ⟨⟨k, r1⟩, hh⟩ : ∃ x, x = Rd.take ⟨b, 0, 0⟩ 1 := ⟨_, rfl⟩
  have HT0 := Lib.hid hh.symm
  obtain rfl : k = 2 := by rw [← hh] at hkk; exact hkk
  rw [← hh] at hx
  clear hh hkk
  refine hx.mono ?_
  rintro e w2 ⟨ha, hr, hk⟩
  obtain rfl : e = .returned (.int .u8 2) := ha
  have B2 := Lib.hid (B1.out.trans (hk.below B1.out.size (fun i hi => by omega)))
  have KR2 := Lib.hid (KR1.out.keeps hk (by omega))
  have RR2 := Lib.hid hr
  clear hx hr hk B1 KR1 R1
  go_wp2_with fail
  have hCE : ∀ kk : Int, DSt w (w2.alloc (.cells #[.int .i64 kk, .int .i64 0, .int .i64 0, .string ⟨#[]⟩, .slice none 0 0, .bool false] 105)) R g w2.heap.size r1 #[.int .i64 kk, .int .i64 0, .int .i64 0, .string ⟨#[]⟩, .slice none 0 0, .bool false] := fun kk =>
    ⟨B2.out.alloc B2.out.size _, KR2.out.alloc _, Blk.new _ _ _, RR2.out.below ((Below.refl _ _).alloc (Nat.le_refl _) _), hRw, hgR, RR2.out.lt⟩
  have HCE := Lib.hid hCE
  clear hCE
  obtain ⟨E, hE⟩ : ∃ x, x = w2.heap.size := ⟨_, rfl⟩
  rw [← hE] at HCE ⊢
  clear hE B2 KR2 RR2
  have D3 := Lib.hid (HCE.out 2)
  obtain ⟨w3, hw3⟩ : ∃ x, x = w2.alloc (.cells #[.int .i64 2, .int .i64 0, .int .i64 0, .string ⟨#[]⟩, .slice none 0 0, .bool false] 105) := ⟨_, rfl⟩
  rw [← hw3] at D3 ⊢
  clear hw3 HCE
  refine (fields_any 2).mono ?_
  rintro e w3' ⟨rfl, rfl⟩
  rw [show fieldsF 2 = 1 from rfl]
  have b1 := and_1_1
  have b2 := and_1_2
  have b4 := and_1_4
  have b8 := and_1_8
  have b16 := and_1_16
  have q0 := D3.out.ent.cell 0
  have f0 := D3.out.ent.frozen 0
  have q1 := D3.out.ent.cell 1
  have f1 := D3.out.ent.frozen 1
  have q2 := D3.out.ent.cell 2
  have f2 := D3.out.ent.frozen 2
  have q3 := D3.out.ent.cell 3
  have f3 := D3.out.ent.frozen 3
  have q4 := D3.out.ent.cell 4
  have f4 := D3.out.ent.frozen 4
  have q5 := D3.out.ent.cell 5
  have f5 := D3.out.ent.frozen 5
  simp at q0 q1 q2 q3 q4 q5
  go_wp2_with fail
  have hx := rdText_any D3.out.rd 255
  obtain ⟨⟨p1, r2⟩, hh⟩ : ∃ x, x = r1.bytes 255 := ⟨_, rfl⟩
  have Hr2 := Lib.hid hh.symm
  rw [← hh] at hx
  clear hh
  refine hx.mono ?_
  rintro e w4 ⟨ha, hr, hk⟩
  simp only at ha hr
  obtain ⟨key, hkey⟩ : ∃ s : ByteArray, s = ⟨p1.toArray⟩ := ⟨_, rfl⟩
  obtain rfl : e = .returned (.string key) := by rw [hkey]; exact ha
  have HKEY := Lib.hid hkey
  clear hkey
  have D4' := Lib.hid (D3.out.read hr hk)
  have D4 := Lib.hid (show DSt w (w4.setCell ⟨E, 3, none⟩ (.string key)) R g E r2 #[.int .i64 2, .int .i64 0, .int .i64 0, .string key, .slice none 0 0, .bool false] from by simpa using D4'.out.set 3 (.string key))
  clear hx hr hk ha D3
  clear q0 q1 q2 q3 q4 q5 f0 f1 f2 f3 f4 f5
  have q0 := D4'.out.ent.cell 0
  have f0 := D4'.out.ent.frozen 0
  have q1 := D4'.out.ent.cell 1
  have f1 := D4'.out.ent.frozen 1
  have q2 := D4'.out.ent.cell 2
  have f2 := D4'.out.ent.frozen 2
  have q3 := D4'.out.ent.cell 3
  have f3 := D4'.out.ent.frozen 3
  have q4 := D4'.out.ent.cell 4
  have f4 := D4'.out.ent.frozen 4
  have q5 := D4'.out.ent.cell 5
  have f5 := D4'.out.ent.frozen 5
  simp at q0 q1 q2 q3 q4 q5
  obtain ⟨X4, hX4⟩ : ∃ x, x = w4.setCell ⟨E, 3, none⟩ (.string key) := ⟨_, rfl⟩
  rw [← hX4] at D4
  have hE4 := Lib.hid hX4
  clear hX4 D4'
  have HTL := Lib.hid (show Tells b ⟨2, 0, 0, key, [], false⟩ r2 from by have h := dec_2 HT0.out Hr2.out; rw [← HKEY.out] at h; exact h)
  have HKS := Lib.hid (show key.size ≤ b.length from by
    have h := r1.bytes_len 255
    rw [Hr2.out] at h
    have hl1 : r1.l = b := by have := Rd.step_l ⟨b, 0, 0⟩ 0 (takeF 1 (b.drop 0)); rw [show Rd.step ⟨b, 0, 0⟩ 0 (takeF 1 (b.drop 0)) = _ from HT0.out] at this; exact this
    rw [hl1] at h
    rw [HKEY.out]; exact h)
  go_wp2_with fail
  rw [← hE4.out]
  clear hE4 q0 q1 q2 q3 q4 q5 f0 f1 f2 f3 f4 f5
  have hbl : BReads X4 w.heap.size A b := HB.out.below D4.out.bel
  have HBX := Lib.hid hbl
  clear hbl
  refine (encode_any (A := none) (c := 0) ⟨2, 0, 0, key, [], false⟩ (show BReads _ _ none [] from Reads.none_) (by show key.size ≤ _; have := HKS.out; omega) (by show (0 : Nat) ≤ _; omega)).mono ?_
  rintro e w20 h
  rcases h with ⟨hm, v', rfl, ho, hb⟩ | ⟨hm, rfl, hb⟩
  · obtain ⟨A5, c5, rfl, _, hr5⟩ := BOwns.slice ho
    have D20 := Lib.hid (D4.out.go hb)
    have HM := Lib.hid hm
    have R5 := Lib.hid hr5
    have HB20 := Lib.hid (HB.out.below D20.out.bel)
    obtain ⟨LE, hLE⟩ : ∃ L, L = En.enc ⟨2, 0, 0, key, [], false⟩ := ⟨_, rfl⟩
    rw [← hLE] at R5 ⊢
    have HLE := Lib.hid hLE
    clear ho hb hr5 hm hLE
    go_wp2_with fail
    by_cases hend : r2.end_ = 0
    · have HEND := Lib.hid hend
      have hea := end_any D20.out.rd
      rw [hend] at hea
      clear hend
      refine hea.mono ?_
      rintro e w21 ⟨rfl, m, hw21⟩
      have D21 := Lib.hid (show DSt w w21 R g E r2 _ from by rw [hw21]; exact D20.out.go (below_drewN (Below.refl _ _) m))
      have HB21 := Lib.hid (HB.out.below D21.out.bel)
      have R521 := Lib.hid (show BReads w21 w20.heap.size A5 LE from by rw [hw21]; exact R5.out)
      clear hea hw21 D20 R5
      go_wp2_with fail
      by_cases heq : LE = b
      · refine (bytesEqual_any R521.out HB21.out).mono ?_
        rintro e w22 ⟨rfl, rfl⟩
        rw [decide_eq_true heq]
        have HEQ := Lib.hid heq
        clear heq
        have q0 := D21.out.ent.cell 0
        have q1 := D21.out.ent.cell 1
        have q2 := D21.out.ent.cell 2
        have q3 := D21.out.ent.cell 3
        have q4 := D21.out.ent.cell 4
        have q5 := D21.out.ent.cell 5
        have z0 := D21.out.res.cell 0
        have g0 := D21.out.res.frozen 0
        have z1 := D21.out.res.cell 1
        have g1 := D21.out.res.frozen 1
        have z2 := D21.out.res.cell 2
        have g2 := D21.out.res.frozen 2
        have z3 := D21.out.res.cell 3
        have g3 := D21.out.res.frozen 3
        have z4 := D21.out.res.cell 4
        have g4 := D21.out.res.frozen 4
        have z5 := D21.out.res.cell 5
        have g5 := D21.out.res.frozen 5
        simp at q0 q1 q2 q3 q4 q5 z0 z1 z2 z3 z4 z5
        have us := 0
        have KR3 := Lib.hid (D21.out.res.put6 (.int .i64 2) (.int .i64 0) (.int .i64 0) (.string key) (.slice none 0 0) (.bool false))
        have B3 := Lib.hid (D21.out.bel.trans ((keeps_set6 w21 R (.int .i64 2) (.int .i64 0) (.int .i64 0) (.string key) (.slice none 0 0) (.bool false)).below D21.out.bel.size (fun i hi => by rw [hi]; exact D21.out.o1)))
        go_wp2
        unfold set6 at KR3 B3
        have y0 := KR3.out.cell 0
        have y1 := KR3.out.cell 1
        have y2 := KR3.out.cell 2
        have y3 := KR3.out.cell 3
        have y4 := KR3.out.cell 4
        have y5 := KR3.out.cell 5
        simp only [List.getElem?_toArray, List.getElem?_cons_zero, List.getElem?_cons_succ] at y0 y1 y2 y3 y4 y5
        exact bodyPost_ret (v := .tuple #[.agg #[.int .i64 2, .int .i64 0, .int .i64 0, .string key, .slice none 0 0, .bool false], .int .i64 0]) (by simp [results, Tryz.results91, go_sem, y0, y1, y2, y3, y4, y5]) rfl (.inl ⟨⟨2, 0, 0, key, [], false⟩, HM.out, by rw [← HLE.out]; exact HEQ.out, none, 0, rfl, BOwns.nil _ _, B3.out⟩)
      · refine (bytesEqual_any R521.out HB21.out).mono ?_
        rintro e w22 ⟨rfl, rfl⟩
        rw [decide_eq_false heq]
        have HNO := Lib.hid (HTL.out.no (fun h => heq (by rw [HLE.out]; exact h.2.1)))
        clear heq
        have z0 := D21.out.res.cell 0
        have g0 := D21.out.res.frozen 0
        have z1 := D21.out.res.cell 1
        have g1 := D21.out.res.frozen 1
        have z2 := D21.out.res.cell 2
        have g2 := D21.out.res.frozen 2
        have z3 := D21.out.res.cell 3
        have g3 := D21.out.res.frozen 3
        have z4 := D21.out.res.cell 4
        have g4 := D21.out.res.frozen 4
        have z5 := D21.out.res.cell 5
        have g5 := D21.out.res.frozen 5
        simp at z0 z1 z2 z3 z4 z5
        have KR3 := Lib.hid (D21.out.res.put6 (.int .i64 0) (.int .i64 0) (.int .i64 0) (.string ⟨#[]⟩) (.slice none 0 0) (.bool false))
        have B3 := Lib.hid (D21.out.bel.trans ((keeps_set6 w21 R (.int .i64 0) (.int .i64 0) (.int .i64 0) (.string ⟨#[]⟩) (.slice none 0 0) (.bool false)).below D21.out.bel.size (fun i hi => by rw [hi]; exact D21.out.o1)))
        go_wp2
        unfold set6 at KR3 B3
        have y0 := KR3.out.cell 0
        have y1 := KR3.out.cell 1
        have y2 := KR3.out.cell 2
        have y3 := KR3.out.cell 3
        have y4 := KR3.out.cell 4
        have y5 := KR3.out.cell 5
        simp only [List.getElem?_toArray, List.getElem?_cons_zero, List.getElem?_cons_succ] at y0 y1 y2 y3 y4 y5
        exact bodyPost_ret (v := .tuple #[.agg #[.int .i64 0, .int .i64 0, .int .i64 0, .string ⟨#[]⟩, .slice none 0 0, .bool false], .int .i64 100]) (by simp [results, Tryz.results91, go_sem, y0, y1, y2, y3, y4, y5]) rfl (.inr ⟨HNO.out, rfl, B3.out⟩)
    · have HNO := Lib.hid (HTL.out.no (fun h => hend h.2.2))
      have hnz : (r2.end_ != 0) = true := by rw [bne_iff_ne]; exact hend
      clear hend
      refine (end_any D20.out.rd).mono ?_
      rintro e w21 ⟨rfl, m, hw21⟩
      have D21 := Lib.hid (show DSt w w21 R g E r2 _ from by rw [hw21]; exact D20.out.go (below_drewN (Below.refl _ _) m))
      clear hw21
      have z0 := D21.out.res.cell 0
      have g0 := D21.out.res.frozen 0
      have z1 := D21.out.res.cell 1
      have g1 := D21.out.res.frozen 1
      have z2 := D21.out.res.cell 2
      have g2 := D21.out.res.frozen 2
      have z3 := D21.out.res.cell 3
      have g3 := D21.out.res.frozen 3
      have z4 := D21.out.res.cell 4
      have g4 := D21.out.res.frozen 4
      have z5 := D21.out.res.cell 5
      have g5 := D21.out.res.frozen 5
      simp at z0 z1 z2 z3 z4 z5
      have KR3 := Lib.hid (D21.out.res.put6 (.int .i64 0) (.int .i64 0) (.int .i64 0) (.string ⟨#[]⟩) (.slice none 0 0) (.bool false))
      have B3 := Lib.hid (D21.out.bel.trans ((keeps_set6 w21 R (.int .i64 0) (.int .i64 0) (.int .i64 0) (.string ⟨#[]⟩) (.slice none 0 0) (.bool false)).below D21.out.bel.size (fun i hi => by rw [hi]; exact D21.out.o1)))
      go_wp2
      unfold set6 at KR3 B3
      have y0 := KR3.out.cell 0
      have y1 := KR3.out.cell 1
      have y2 := KR3.out.cell 2
      have y3 := KR3.out.cell 3
      have y4 := KR3.out.cell 4
      have y5 := KR3.out.cell 5
      simp only [List.getElem?_toArray, List.getElem?_cons_zero, List.getElem?_cons_succ] at y0 y1 y2 y3 y4 y5
      exact bodyPost_ret (v := .tuple #[.agg #[.int .i64 0, .int .i64 0, .int .i64 0, .string ⟨#[]⟩, .slice none 0 0, .bool false], .int .i64 100]) (by simp [results, Tryz.results91, go_sem, y0, y1, y2, y3, y4, y5]) rfl (.inr ⟨HNO.out, rfl, B3.out⟩)
  · have D20 := Lib.hid (D4.out.go hb)
    have HNO := Lib.hid (HTL.out.no (fun h => hm h.1))
    clear hb hm
    go_wp2_with fail
    by_cases hend : r2.end_ = 0
    · have hea := end_any D20.out.rd
      rw [hend] at hea
      clear hend
      refine hea.mono ?_
      rintro e w21 ⟨rfl, m, hw21⟩
      have D21 := Lib.hid (show DSt w w21 R g E r2 _ from by rw [hw21]; exact D20.out.go (below_drewN (Below.refl _ _) m))
      clear hw21 hea
      have z0 := D21.out.res.cell 0
      have g0 := D21.out.res.frozen 0
      have z1 := D21.out.res.cell 1
      have g1 := D21.out.res.frozen 1
      have z2 := D21.out.res.cell 2
      have g2 := D21.out.res.frozen 2
      have z3 := D21.out.res.cell 3
      have g3 := D21.out.res.frozen 3
      have z4 := D21.out.res.cell 4
      have g4 := D21.out.res.frozen 4
      have z5 := D21.out.res.cell 5
      have g5 := D21.out.res.frozen 5
      simp at z0 z1 z2 z3 z4 z5
      have KR3 := Lib.hid (D21.out.res.put6 (.int .i64 0) (.int .i64 0) (.int .i64 0) (.string ⟨#[]⟩) (.slice none 0 0) (.bool false))
      have B3 := Lib.hid (D21.out.bel.trans ((keeps_set6 w21 R (.int .i64 0) (.int .i64 0) (.int .i64 0) (.string ⟨#[]⟩) (.slice none 0 0) (.bool false)).below D21.out.bel.size (fun i hi => by rw [hi]; exact D21.out.o1)))
      go_wp2
      unfold set6 at KR3 B3
      have y0 := KR3.out.cell 0
      have y1 := KR3.out.cell 1
      have y2 := KR3.out.cell 2
      have y3 := KR3.out.cell 3
      have y4 := KR3.out.cell 4
      have y5 := KR3.out.cell 5
      simp only [List.getElem?_toArray, List.getElem?_cons_zero, List.getElem?_cons_succ] at y0 y1 y2 y3 y4 y5
      exact bodyPost_ret (v := .tuple #[.agg #[.int .i64 0, .int .i64 0, .int .i64 0, .string ⟨#[]⟩, .slice none 0 0, .bool false], .int .i64 100]) (by simp [results, Tryz.results91, go_sem, y0, y1, y2, y3, y4, y5]) rfl (.inr ⟨HNO.out, rfl, B3.out⟩)
    · have hnz : (r2.end_ != 0) = true := by rw [bne_iff_ne]; exact hend
      clear hend
      refine (end_any D20.out.rd).mono ?_
      rintro e w21 ⟨rfl, m, hw21⟩
      have D21 := Lib.hid (show DSt w w21 R g E r2 _ from by rw [hw21]; exact D20.out.go (below_drewN (Below.refl _ _) m))
      clear hw21
      have z0 := D21.out.res.cell 0
      have g0 := D21.out.res.frozen 0
      have z1 := D21.out.res.cell 1
      have g1 := D21.out.res.frozen 1
      have z2 := D21.out.res.cell 2
      have g2 := D21.out.res.frozen 2
      have z3 := D21.out.res.cell 3
      have g3 := D21.out.res.frozen 3
      have z4 := D21.out.res.cell 4
      have g4 := D21.out.res.frozen 4
      have z5 := D21.out.res.cell 5
      have g5 := D21.out.res.frozen 5
      simp at z0 z1 z2 z3 z4 z5
      have KR3 := Lib.hid (D21.out.res.put6 (.int .i64 0) (.int .i64 0) (.int .i64 0) (.string ⟨#[]⟩) (.slice none 0 0) (.bool false))
      have B3 := Lib.hid (D21.out.bel.trans ((keeps_set6 w21 R (.int .i64 0) (.int .i64 0) (.int .i64 0) (.string ⟨#[]⟩) (.slice none 0 0) (.bool false)).below D21.out.bel.size (fun i hi => by rw [hi]; exact D21.out.o1)))
      go_wp2
      unfold set6 at KR3 B3
      have y0 := KR3.out.cell 0
      have y1 := KR3.out.cell 1
      have y2 := KR3.out.cell 2
      have y3 := KR3.out.cell 3
      have y4 := KR3.out.cell 4
      have y5 := KR3.out.cell 5
      simp only [List.getElem?_toArray, List.getElem?_cons_zero, List.getElem?_cons_succ] at y0 y1 y2 y3 y4 y5
      exact bodyPost_ret (v := .tuple #[.agg #[.int .i64 0, .int .i64 0, .int .i64 0, .string ⟨#[]⟩, .slice none 0 0, .bool false], .int .i64 100]) (by simp [results, Tryz.results91, go_sem, y0, y1, y2, y3, y4, y5]) rfl (.inr ⟨HNO.out, rfl, B3.out⟩)
set_option maxRecDepth 100000 in
set_option maxHeartbeats 6400000 in
theorem dec3_any {w : World} {A : Option Addr} {c : Nat} {b : List UInt8} (hr : BReads w w.heap.size A b) (hl : b.length ≤ 140737488355328) (hkk : (Rd.take ⟨b, 0, 0⟩ 1).1 = 3) :
    Calls Tryz.prog 91 #[.slice A b.length c] w (DecPost w b) := by
  have HB := Lib.hid hr
  have BA := Lib.hid ((Below.refl w.heap.size w).alloc (Nat.le_refl _) (.cells #[.int .i64 0, .int .i64 0, .int .i64 0, .string ⟨#[]⟩, .slice none 0 0, .bool false] 105))
  have KR := Lib.hid (Blk.new w 105 #[.int .i64 0, .int .i64 0, .int .i64 0, .string ⟨#[]⟩, .slice none 0 0, .bool false])
  clear hr
  go_enter Tryz.func91, Tryz.ntmps91
  go_wp2_with fail
  obtain ⟨W, hW⟩ : ∃ x, x = w.alloc (.cells #[.int .i64 0, .int .i64 0, .int .i64 0, .string ⟨#[]⟩, .slice none 0 0, .bool false] 105) := ⟨_, rfl⟩
  obtain ⟨R, hR⟩ : ∃ x, x = w.heap.size := ⟨_, rfl⟩
  have hRw : w.heap.size ≤ R := by omega
  rw [← hW, ← hR] at KR
  rw [← hW] at BA
  rw [← hW, ← hR]
  clear hW hR
  refine (open_any (HB.out.below BA.out) (by omega)).mono ?_
  rintro e w1 h
  obtain ⟨g, rfl, hg, hrd, hb⟩ := h.out
  have KR1 := Lib.hid (KR.out.below' hb)
  have hgR : R < g := by have := KR.out.lt; omega
  have B1 := Lib.hid (BA.out.trans (hb.mono BA.out.size))
  have R1 := Lib.hid hrd
  clear h hb hrd KR BA hg
  go_wp2_with fail
  have hx := rdTake8_any R1.out
  obtain ⟨⟨k, r1⟩, hh⟩ : ∃ x, x = Rd.take ⟨b, 0, 0⟩ 1 := ⟨_, rfl⟩
  have HT0 := Lib.hid hh.symm
  obtain rfl : k = 3 := by rw [← hh] at hkk; exact hkk
  rw [← hh] at hx
  clear hh hkk
  refine hx.mono ?_
  rintro e w2 ⟨ha, hr, hk⟩
  obtain rfl : e = .returned (.int .u8 3) := ha
  have B2 := Lib.hid (B1.out.trans (hk.below B1.out.size (fun i hi => by omega)))
  have KR2 := Lib.hid (KR1.out.keeps hk (by omega))
  have RR2 := Lib.hid hr
  clear hx hr hk B1 KR1 R1
  go_wp2_with fail
  have hCE : ∀ kk : Int, DSt w (w2.alloc (.cells #[.int .i64 kk, .int .i64 0, .int .i64 0, .string ⟨#[]⟩, .slice none 0 0, .bool false] 105)) R g w2.heap.size r1 #[.int .i64 kk, .int .i64 0, .int .i64 0, .string ⟨#[]⟩, .slice none 0 0, .bool false] := fun kk =>
    ⟨B2.out.alloc B2.out.size _, KR2.out.alloc _, Blk.new _ _ _, RR2.out.below ((Below.refl _ _).alloc (Nat.le_refl _) _), hRw, hgR, RR2.out.lt⟩
  have HCE := Lib.hid hCE
  clear hCE
  obtain ⟨E, hE⟩ : ∃ x, x = w2.heap.size := ⟨_, rfl⟩
  rw [← hE] at HCE ⊢
  clear hE B2 KR2 RR2
  have D3 := Lib.hid (HCE.out 3)
  obtain ⟨w3, hw3⟩ : ∃ x, x = w2.alloc (.cells #[.int .i64 3, .int .i64 0, .int .i64 0, .string ⟨#[]⟩, .slice none 0 0, .bool false] 105) := ⟨_, rfl⟩
  rw [← hw3] at D3 ⊢
  clear hw3 HCE
  refine (fields_any 3).mono ?_
  rintro e w3' ⟨rfl, rfl⟩
  rw [show fieldsF 3 = 6 from rfl]
  have b1 := and_6_1
  have b2 := and_6_2
  have b4 := and_6_4
  have b8 := and_6_8
  have b16 := and_6_16
  have q0 := D3.out.ent.cell 0
  have f0 := D3.out.ent.frozen 0
  have q1 := D3.out.ent.cell 1
  have f1 := D3.out.ent.frozen 1
  have q2 := D3.out.ent.cell 2
  have f2 := D3.out.ent.frozen 2
  have q3 := D3.out.ent.cell 3
  have f3 := D3.out.ent.frozen 3
  have q4 := D3.out.ent.cell 4
  have f4 := D3.out.ent.frozen 4
  have q5 := D3.out.ent.cell 5
  have f5 := D3.out.ent.frozen 5
  simp at q0 q1 q2 q3 q4 q5
  go_wp2_with fail
  have hx := rdInt_any D3.out.rd 0 4611686018427387904
  obtain ⟨⟨s, r2⟩, hh⟩ : ∃ x, x = r1.int 0 4611686018427387904 := ⟨_, rfl⟩
  have Hr2 := Lib.hid hh.symm
  rw [← hh] at hx
  clear hh
  refine hx.mono ?_
  rintro e w4 ⟨ha, hr, hk⟩
  simp only at ha hr
  obtain rfl : e = .returned (.int .i64 s) := ha
  have D4' := Lib.hid (D3.out.read hr hk)
  have D4 := Lib.hid (show DSt w (w4.setCell ⟨E, 1, none⟩ (.int .i64 s)) R g E r2 #[.int .i64 3, .int .i64 s, .int .i64 0, .string ⟨#[]⟩, .slice none 0 0, .bool false] from by simpa using D4'.out.set 1 (.int .i64 s))
  clear hx hr hk D3
  clear q0 q1 q2 q3 q4 q5 f0 f1 f2 f3 f4 f5
  have q0 := D4'.out.ent.cell 0
  have f0 := D4'.out.ent.frozen 0
  have q1 := D4'.out.ent.cell 1
  have f1 := D4'.out.ent.frozen 1
  have q2 := D4'.out.ent.cell 2
  have f2 := D4'.out.ent.frozen 2
  have q3 := D4'.out.ent.cell 3
  have f3 := D4'.out.ent.frozen 3
  have q4 := D4'.out.ent.cell 4
  have f4 := D4'.out.ent.frozen 4
  have q5 := D4'.out.ent.cell 5
  have f5 := D4'.out.ent.frozen 5
  simp at q0 q1 q2 q3 q4 q5
  obtain ⟨X4, hX4⟩ : ∃ x, x = w4.setCell ⟨E, 1, none⟩ (.int .i64 s) := ⟨_, rfl⟩
  rw [← hX4] at D4
  have hE4 := Lib.hid hX4
  clear hX4 D4'
  go_wp2_with fail
  rw [← hE4.out]
  clear hE4 q0 q1 q2 q3 q4 q5 f0 f1 f2 f3 f4 f5
  have hx := rdInt_any D4.out.rd 0 2147483647
  obtain ⟨⟨n, r3⟩, hh⟩ : ∃ x, x = r2.int 0 2147483647 := ⟨_, rfl⟩
  have Hr3 := Lib.hid hh.symm
  rw [← hh] at hx
  clear hh
  refine hx.mono ?_
  rintro e w5 ⟨ha, hr, hk⟩
  simp only at ha hr
  obtain rfl : e = .returned (.int .i64 n) := ha
  have D5' := Lib.hid (D4.out.read hr hk)
  have D5 := Lib.hid (show DSt w (w5.setCell ⟨E, 2, none⟩ (.int .i64 n)) R g E r3 #[.int .i64 3, .int .i64 s, .int .i64 n, .string ⟨#[]⟩, .slice none 0 0, .bool false] from by simpa using D5'.out.set 2 (.int .i64 n))
  clear hx hr hk D4
  have q0 := D5'.out.ent.cell 0
  have f0 := D5'.out.ent.frozen 0
  have q1 := D5'.out.ent.cell 1
  have f1 := D5'.out.ent.frozen 1
  have q2 := D5'.out.ent.cell 2
  have f2 := D5'.out.ent.frozen 2
  have q3 := D5'.out.ent.cell 3
  have f3 := D5'.out.ent.frozen 3
  have q4 := D5'.out.ent.cell 4
  have f4 := D5'.out.ent.frozen 4
  have q5 := D5'.out.ent.cell 5
  have f5 := D5'.out.ent.frozen 5
  simp at q0 q1 q2 q3 q4 q5
  obtain ⟨X5, hX5⟩ : ∃ x, x = w5.setCell ⟨E, 2, none⟩ (.int .i64 n) := ⟨_, rfl⟩
  rw [← hX5] at D5
  have hE5 := Lib.hid hX5
  clear hX5 D5'
  have HTL := Lib.hid (show Tells b ⟨3, s, n, ⟨#[]⟩, [], false⟩ r3 from by have h := dec_m (by decide) HT0.out Hr2.out Hr3.out; exact h)
  go_wp2_with fail
  rw [← hE5.out]
  clear hE5 q0 q1 q2 q3 q4 q5 f0 f1 f2 f3 f4 f5
  have hbl : BReads X5 w.heap.size A b := HB.out.below D5.out.bel
  have HBX := Lib.hid hbl
  clear hbl
  refine (encode_any (A := none) (c := 0) ⟨3, s, n, ⟨#[]⟩, [], false⟩ (show BReads _ _ none [] from Reads.none_) (by show (0 : Nat) ≤ _; omega) (by show (0 : Nat) ≤ _; omega)).mono ?_
  rintro e w20 h
  rcases h with ⟨hm, v', rfl, ho, hb⟩ | ⟨hm, rfl, hb⟩
  · obtain ⟨A5, c5, rfl, _, hr5⟩ := BOwns.slice ho
    have D20 := Lib.hid (D5.out.go hb)
    have HM := Lib.hid hm
    have R5 := Lib.hid hr5
    have HB20 := Lib.hid (HB.out.below D20.out.bel)
    obtain ⟨LE, hLE⟩ : ∃ L, L = En.enc ⟨3, s, n, ⟨#[]⟩, [], false⟩ := ⟨_, rfl⟩
    rw [← hLE] at R5 ⊢
    have HLE := Lib.hid hLE
    clear ho hb hr5 hm hLE
    go_wp2_with fail
    by_cases hend : r3.end_ = 0
    · have HEND := Lib.hid hend
      have hea := end_any D20.out.rd
      rw [hend] at hea
      clear hend
      refine hea.mono ?_
      rintro e w21 ⟨rfl, m, hw21⟩
      have D21 := Lib.hid (show DSt w w21 R g E r3 _ from by rw [hw21]; exact D20.out.go (below_drewN (Below.refl _ _) m))
      have HB21 := Lib.hid (HB.out.below D21.out.bel)
      have R521 := Lib.hid (show BReads w21 w20.heap.size A5 LE from by rw [hw21]; exact R5.out)
      clear hea hw21 D20 R5
      go_wp2_with fail
      by_cases heq : LE = b
      · refine (bytesEqual_any R521.out HB21.out).mono ?_
        rintro e w22 ⟨rfl, rfl⟩
        rw [decide_eq_true heq]
        have HEQ := Lib.hid heq
        clear heq
        have q0 := D21.out.ent.cell 0
        have q1 := D21.out.ent.cell 1
        have q2 := D21.out.ent.cell 2
        have q3 := D21.out.ent.cell 3
        have q4 := D21.out.ent.cell 4
        have q5 := D21.out.ent.cell 5
        have z0 := D21.out.res.cell 0
        have g0 := D21.out.res.frozen 0
        have z1 := D21.out.res.cell 1
        have g1 := D21.out.res.frozen 1
        have z2 := D21.out.res.cell 2
        have g2 := D21.out.res.frozen 2
        have z3 := D21.out.res.cell 3
        have g3 := D21.out.res.frozen 3
        have z4 := D21.out.res.cell 4
        have g4 := D21.out.res.frozen 4
        have z5 := D21.out.res.cell 5
        have g5 := D21.out.res.frozen 5
        simp at q0 q1 q2 q3 q4 q5 z0 z1 z2 z3 z4 z5
        have us := 0
        have KR3 := Lib.hid (D21.out.res.put6 (.int .i64 3) (.int .i64 s) (.int .i64 n) (.string ⟨#[]⟩) (.slice none 0 0) (.bool false))
        have B3 := Lib.hid (D21.out.bel.trans ((keeps_set6 w21 R (.int .i64 3) (.int .i64 s) (.int .i64 n) (.string ⟨#[]⟩) (.slice none 0 0) (.bool false)).below D21.out.bel.size (fun i hi => by rw [hi]; exact D21.out.o1)))
        go_wp2
        unfold set6 at KR3 B3
        have y0 := KR3.out.cell 0
        have y1 := KR3.out.cell 1
        have y2 := KR3.out.cell 2
        have y3 := KR3.out.cell 3
        have y4 := KR3.out.cell 4
        have y5 := KR3.out.cell 5
        simp only [List.getElem?_toArray, List.getElem?_cons_zero, List.getElem?_cons_succ] at y0 y1 y2 y3 y4 y5
        exact bodyPost_ret (v := .tuple #[.agg #[.int .i64 3, .int .i64 s, .int .i64 n, .string ⟨#[]⟩, .slice none 0 0, .bool false], .int .i64 0]) (by simp [results, Tryz.results91, go_sem, y0, y1, y2, y3, y4, y5]) rfl (.inl ⟨⟨3, s, n, ⟨#[]⟩, [], false⟩, HM.out, by rw [← HLE.out]; exact HEQ.out, none, 0, rfl, BOwns.nil _ _, B3.out⟩)
      · refine (bytesEqual_any R521.out HB21.out).mono ?_
        rintro e w22 ⟨rfl, rfl⟩
        rw [decide_eq_false heq]
        have HNO := Lib.hid (HTL.out.no (fun h => heq (by rw [HLE.out]; exact h.2.1)))
        clear heq
        have z0 := D21.out.res.cell 0
        have g0 := D21.out.res.frozen 0
        have z1 := D21.out.res.cell 1
        have g1 := D21.out.res.frozen 1
        have z2 := D21.out.res.cell 2
        have g2 := D21.out.res.frozen 2
        have z3 := D21.out.res.cell 3
        have g3 := D21.out.res.frozen 3
        have z4 := D21.out.res.cell 4
        have g4 := D21.out.res.frozen 4
        have z5 := D21.out.res.cell 5
        have g5 := D21.out.res.frozen 5
        simp at z0 z1 z2 z3 z4 z5
        have KR3 := Lib.hid (D21.out.res.put6 (.int .i64 0) (.int .i64 0) (.int .i64 0) (.string ⟨#[]⟩) (.slice none 0 0) (.bool false))
        have B3 := Lib.hid (D21.out.bel.trans ((keeps_set6 w21 R (.int .i64 0) (.int .i64 0) (.int .i64 0) (.string ⟨#[]⟩) (.slice none 0 0) (.bool false)).below D21.out.bel.size (fun i hi => by rw [hi]; exact D21.out.o1)))
        go_wp2
        unfold set6 at KR3 B3
        have y0 := KR3.out.cell 0
        have y1 := KR3.out.cell 1
        have y2 := KR3.out.cell 2
        have y3 := KR3.out.cell 3
        have y4 := KR3.out.cell 4
        have y5 := KR3.out.cell 5
        simp only [List.getElem?_toArray, List.getElem?_cons_zero, List.getElem?_cons_succ] at y0 y1 y2 y3 y4 y5
        exact bodyPost_ret (v := .tuple #[.agg #[.int .i64 0, .int .i64 0, .int .i64 0, .string ⟨#[]⟩, .slice none 0 0, .bool false], .int .i64 100]) (by simp [results, Tryz.results91, go_sem, y0, y1, y2, y3, y4, y5]) rfl (.inr ⟨HNO.out, rfl, B3.out⟩)
    · have HNO := Lib.hid (HTL.out.no (fun h => hend h.2.2))
      have hnz : (r3.end_ != 0) = true := by rw [bne_iff_ne]; exact hend
      clear hend
      refine (end_any D20.out.rd).mono ?_
      rintro e w21 ⟨rfl, m, hw21⟩
      have D21 := Lib.hid (show DSt w w21 R g E r3 _ from by rw [hw21]; exact D20.out.go (below_drewN (Below.refl _ _) m))
      clear hw21
      have z0 := D21.out.res.cell 0
      have g0 := D21.out.res.frozen 0
      have z1 := D21.out.res.cell 1
      have g1 := D21.out.res.frozen 1
      have z2 := D21.out.res.cell 2
      have g2 := D21.out.res.frozen 2
      have z3 := D21.out.res.cell 3
      have g3 := D21.out.res.frozen 3
      have z4 := D21.out.res.cell 4
      have g4 := D21.out.res.frozen 4
      have z5 := D21.out.res.cell 5
      have g5 := D21.out.res.frozen 5
      simp at z0 z1 z2 z3 z4 z5
      have KR3 := Lib.hid (D21.out.res.put6 (.int .i64 0) (.int .i64 0) (.int .i64 0) (.string ⟨#[]⟩) (.slice none 0 0) (.bool false))
      have B3 := Lib.hid (D21.out.bel.trans ((keeps_set6 w21 R (.int .i64 0) (.int .i64 0) (.int .i64 0) (.string ⟨#[]⟩) (.slice none 0 0) (.bool false)).below D21.out.bel.size (fun i hi => by rw [hi]; exact D21.out.o1)))
      go_wp2
      unfold set6 at KR3 B3
      have y0 := KR3.out.cell 0
      have y1 := KR3.out.cell 1
      have y2 := KR3.out.cell 2
      have y3 := KR3.out.cell 3
      have y4 := KR3.out.cell 4
      have y5 := KR3.out.cell 5
      simp only [List.getElem?_toArray, List.getElem?_cons_zero, List.getElem?_cons_succ] at y0 y1 y2 y3 y4 y5
      exact bodyPost_ret (v := .tuple #[.agg #[.int .i64 0, .int .i64 0, .int .i64 0, .string ⟨#[]⟩, .slice none 0 0, .bool false], .int .i64 100]) (by simp [results, Tryz.results91, go_sem, y0, y1, y2, y3, y4, y5]) rfl (.inr ⟨HNO.out, rfl, B3.out⟩)
  · have D20 := Lib.hid (D5.out.go hb)
    have HNO := Lib.hid (HTL.out.no (fun h => hm h.1))
    clear hb hm
    go_wp2_with fail
    by_cases hend : r3.end_ = 0
    · have hea := end_any D20.out.rd
      rw [hend] at hea
      clear hend
      refine hea.mono ?_
      rintro e w21 ⟨rfl, m, hw21⟩
      have D21 := Lib.hid (show DSt w w21 R g E r3 _ from by rw [hw21]; exact D20.out.go (below_drewN (Below.refl _ _) m))
      clear hw21 hea
      have z0 := D21.out.res.cell 0
      have g0 := D21.out.res.frozen 0
      have z1 := D21.out.res.cell 1
      have g1 := D21.out.res.frozen 1
      have z2 := D21.out.res.cell 2
      have g2 := D21.out.res.frozen 2
      have z3 := D21.out.res.cell 3
      have g3 := D21.out.res.frozen 3
      have z4 := D21.out.res.cell 4
      have g4 := D21.out.res.frozen 4
      have z5 := D21.out.res.cell 5
      have g5 := D21.out.res.frozen 5
      simp at z0 z1 z2 z3 z4 z5
      have KR3 := Lib.hid (D21.out.res.put6 (.int .i64 0) (.int .i64 0) (.int .i64 0) (.string ⟨#[]⟩) (.slice none 0 0) (.bool false))
      have B3 := Lib.hid (D21.out.bel.trans ((keeps_set6 w21 R (.int .i64 0) (.int .i64 0) (.int .i64 0) (.string ⟨#[]⟩) (.slice none 0 0) (.bool false)).below D21.out.bel.size (fun i hi => by rw [hi]; exact D21.out.o1)))
      go_wp2
      unfold set6 at KR3 B3
      have y0 := KR3.out.cell 0
      have y1 := KR3.out.cell 1
      have y2 := KR3.out.cell 2
      have y3 := KR3.out.cell 3
      have y4 := KR3.out.cell 4
      have y5 := KR3.out.cell 5
      simp only [List.getElem?_toArray, List.getElem?_cons_zero, List.getElem?_cons_succ] at y0 y1 y2 y3 y4 y5
      exact bodyPost_ret (v := .tuple #[.agg #[.int .i64 0, .int .i64 0, .int .i64 0, .string ⟨#[]⟩, .slice none 0 0, .bool false], .int .i64 100]) (by simp [results, Tryz.results91, go_sem, y0, y1, y2, y3, y4, y5]) rfl (.inr ⟨HNO.out, rfl, B3.out⟩)
    · have hnz : (r3.end_ != 0) = true := by rw [bne_iff_ne]; exact hend
      clear hend
      refine (end_any D20.out.rd).mono ?_
      rintro e w21 ⟨rfl, m, hw21⟩
      have D21 := Lib.hid (show DSt w w21 R g E r3 _ from by rw [hw21]; exact D20.out.go (below_drewN (Below.refl _ _) m))
      clear hw21
      have z0 := D21.out.res.cell 0
      have g0 := D21.out.res.frozen 0
      have z1 := D21.out.res.cell 1
      have g1 := D21.out.res.frozen 1
      have z2 := D21.out.res.cell 2
      have g2 := D21.out.res.frozen 2
      have z3 := D21.out.res.cell 3
      have g3 := D21.out.res.frozen 3
      have z4 := D21.out.res.cell 4
      have g4 := D21.out.res.frozen 4
      have z5 := D21.out.res.cell 5
      have g5 := D21.out.res.frozen 5
      simp at z0 z1 z2 z3 z4 z5
      have KR3 := Lib.hid (D21.out.res.put6 (.int .i64 0) (.int .i64 0) (.int .i64 0) (.string ⟨#[]⟩) (.slice none 0 0) (.bool false))
      have B3 := Lib.hid (D21.out.bel.trans ((keeps_set6 w21 R (.int .i64 0) (.int .i64 0) (.int .i64 0) (.string ⟨#[]⟩) (.slice none 0 0) (.bool false)).below D21.out.bel.size (fun i hi => by rw [hi]; exact D21.out.o1)))
      go_wp2
      unfold set6 at KR3 B3
      have y0 := KR3.out.cell 0
      have y1 := KR3.out.cell 1
      have y2 := KR3.out.cell 2
      have y3 := KR3.out.cell 3
      have y4 := KR3.out.cell 4
      have y5 := KR3.out.cell 5
      simp only [List.getElem?_toArray, List.getElem?_cons_zero, List.getElem?_cons_succ] at y0 y1 y2 y3 y4 y5
      exact bodyPost_ret (v := .tuple #[.agg #[.int .i64 0, .int .i64 0, .int .i64 0, .string ⟨#[]⟩, .slice none 0 0, .bool false], .int .i64 100]) (by simp [results, Tryz.results91, go_sem, y0, y1, y2, y3, y4, y5]) rfl (.inr ⟨HNO.out, rfl, B3.out⟩)
set_option maxRecDepth 100000 in
set_option maxHeartbeats 6400000 in
theorem dec4_any {w : World} {A : Option Addr} {c : Nat} {b : List UInt8} (hr : BReads w w.heap.size A b) (hl : b.length ≤ 140737488355328) (hkk : (Rd.take ⟨b, 0, 0⟩ 1).1 = 4) :
    Calls Tryz.prog 91 #[.slice A b.length c] w (DecPost w b) := by
  have HB := Lib.hid hr
  have BA := Lib.hid ((Below.refl w.heap.size w).alloc (Nat.le_refl _) (.cells #[.int .i64 0, .int .i64 0, .int .i64 0, .string ⟨#[]⟩, .slice none 0 0, .bool false] 105))
  have KR := Lib.hid (Blk.new w 105 #[.int .i64 0, .int .i64 0, .int .i64 0, .string ⟨#[]⟩, .slice none 0 0, .bool false])
  clear hr
  go_enter Tryz.func91, Tryz.ntmps91
  go_wp2_with fail
  obtain ⟨W, hW⟩ : ∃ x, x = w.alloc (.cells #[.int .i64 0, .int .i64 0, .int .i64 0, .string ⟨#[]⟩, .slice none 0 0, .bool false] 105) := ⟨_, rfl⟩
  obtain ⟨R, hR⟩ : ∃ x, x = w.heap.size := ⟨_, rfl⟩
  have hRw : w.heap.size ≤ R := by omega
  rw [← hW, ← hR] at KR
  rw [← hW] at BA
  rw [← hW, ← hR]
  clear hW hR
  refine (open_any (HB.out.below BA.out) (by omega)).mono ?_
  rintro e w1 h
  obtain ⟨g, rfl, hg, hrd, hb⟩ := h.out
  have KR1 := Lib.hid (KR.out.below' hb)
  have hgR : R < g := by have := KR.out.lt; omega
  have B1 := Lib.hid (BA.out.trans (hb.mono BA.out.size))
  have R1 := Lib.hid hrd
  clear h hb hrd KR BA hg
  go_wp2_with fail
  have hx := rdTake8_any R1.out
  obtain ⟨⟨k, r1⟩, hh⟩ : ∃ x, x = Rd.take ⟨b, 0, 0⟩ 1 := ⟨_, rfl⟩
  have HT0 := Lib.hid hh.symm
  obtain rfl : k = 4 := by rw [← hh] at hkk; exact hkk
  rw [← hh] at hx
  clear hh hkk
  refine hx.mono ?_
  rintro e w2 ⟨ha, hr, hk⟩
  obtain rfl : e = .returned (.int .u8 4) := ha
  have B2 := Lib.hid (B1.out.trans (hk.below B1.out.size (fun i hi => by omega)))
  have KR2 := Lib.hid (KR1.out.keeps hk (by omega))
  have RR2 := Lib.hid hr
  clear hx hr hk B1 KR1 R1
  go_wp2_with fail
  have hCE : ∀ kk : Int, DSt w (w2.alloc (.cells #[.int .i64 kk, .int .i64 0, .int .i64 0, .string ⟨#[]⟩, .slice none 0 0, .bool false] 105)) R g w2.heap.size r1 #[.int .i64 kk, .int .i64 0, .int .i64 0, .string ⟨#[]⟩, .slice none 0 0, .bool false] := fun kk =>
    ⟨B2.out.alloc B2.out.size _, KR2.out.alloc _, Blk.new _ _ _, RR2.out.below ((Below.refl _ _).alloc (Nat.le_refl _) _), hRw, hgR, RR2.out.lt⟩
  have HCE := Lib.hid hCE
  clear hCE
  obtain ⟨E, hE⟩ : ∃ x, x = w2.heap.size := ⟨_, rfl⟩
  rw [← hE] at HCE ⊢
  clear hE B2 KR2 RR2
  have D3 := Lib.hid (HCE.out 4)
  obtain ⟨w3, hw3⟩ : ∃ x, x = w2.alloc (.cells #[.int .i64 4, .int .i64 0, .int .i64 0, .string ⟨#[]⟩, .slice none 0 0, .bool false] 105) := ⟨_, rfl⟩
  rw [← hw3] at D3 ⊢
  clear hw3 HCE
  refine (fields_any 4).mono ?_
  rintro e w3' ⟨rfl, rfl⟩
  rw [show fieldsF 4 = 6 from rfl]
  have b1 := and_6_1
  have b2 := and_6_2
  have b4 := and_6_4
  have b8 := and_6_8
  have b16 := and_6_16
  have q0 := D3.out.ent.cell 0
  have f0 := D3.out.ent.frozen 0
  have q1 := D3.out.ent.cell 1
  have f1 := D3.out.ent.frozen 1
  have q2 := D3.out.ent.cell 2
  have f2 := D3.out.ent.frozen 2
  have q3 := D3.out.ent.cell 3
  have f3 := D3.out.ent.frozen 3
  have q4 := D3.out.ent.cell 4
  have f4 := D3.out.ent.frozen 4
  have q5 := D3.out.ent.cell 5
  have f5 := D3.out.ent.frozen 5
  simp at q0 q1 q2 q3 q4 q5
  go_wp2_with fail
  have hx := rdInt_any D3.out.rd 0 4611686018427387904
  obtain ⟨⟨s, r2⟩, hh⟩ : ∃ x, x = r1.int 0 4611686018427387904 := ⟨_, rfl⟩
  have Hr2 := Lib.hid hh.symm
  rw [← hh] at hx
  clear hh
  refine hx.mono ?_
  rintro e w4 ⟨ha, hr, hk⟩
  simp only at ha hr
  obtain rfl : e = .returned (.int .i64 s) := ha
  have D4' := Lib.hid (D3.out.read hr hk)
  have D4 := Lib.hid (show DSt w (w4.setCell ⟨E, 1, none⟩ (.int .i64 s)) R g E r2 #[.int .i64 4, .int .i64 s, .int .i64 0, .string ⟨#[]⟩, .slice none 0 0, .bool false] from by simpa using D4'.out.set 1 (.int .i64 s))
  clear hx hr hk D3
  clear q0 q1 q2 q3 q4 q5 f0 f1 f2 f3 f4 f5
  have q0 := D4'.out.ent.cell 0
  have f0 := D4'.out.ent.frozen 0
  have q1 := D4'.out.ent.cell 1
  have f1 := D4'.out.ent.frozen 1
  have q2 := D4'.out.ent.cell 2
  have f2 := D4'.out.ent.frozen 2
  have q3 := D4'.out.ent.cell 3
  have f3 := D4'.out.ent.frozen 3
  have q4 := D4'.out.ent.cell 4
  have f4 := D4'.out.ent.frozen 4
  have q5 := D4'.out.ent.cell 5
  have f5 := D4'.out.ent.frozen 5
  simp at q0 q1 q2 q3 q4 q5
  obtain ⟨X4, hX4⟩ : ∃ x, x = w4.setCell ⟨E, 1, none⟩ (.int .i64 s) := ⟨_, rfl⟩
  rw [← hX4] at D4
  have hE4 := Lib.hid hX4
  clear hX4 D4'
  go_wp2_with fail
  rw [← hE4.out]
  clear hE4 q0 q1 q2 q3 q4 q5 f0 f1 f2 f3 f4 f5
  have hx := rdInt_any D4.out.rd 0 2147483647
  obtain ⟨⟨n, r3⟩, hh⟩ : ∃ x, x = r2.int 0 2147483647 := ⟨_, rfl⟩
  have Hr3 := Lib.hid hh.symm
  rw [← hh] at hx
  clear hh
  refine hx.mono ?_
  rintro e w5 ⟨ha, hr, hk⟩
  simp only at ha hr
  obtain rfl : e = .returned (.int .i64 n) := ha
  have D5' := Lib.hid (D4.out.read hr hk)
  have D5 := Lib.hid (show DSt w (w5.setCell ⟨E, 2, none⟩ (.int .i64 n)) R g E r3 #[.int .i64 4, .int .i64 s, .int .i64 n, .string ⟨#[]⟩, .slice none 0 0, .bool false] from by simpa using D5'.out.set 2 (.int .i64 n))
  clear hx hr hk D4
  have q0 := D5'.out.ent.cell 0
  have f0 := D5'.out.ent.frozen 0
  have q1 := D5'.out.ent.cell 1
  have f1 := D5'.out.ent.frozen 1
  have q2 := D5'.out.ent.cell 2
  have f2 := D5'.out.ent.frozen 2
  have q3 := D5'.out.ent.cell 3
  have f3 := D5'.out.ent.frozen 3
  have q4 := D5'.out.ent.cell 4
  have f4 := D5'.out.ent.frozen 4
  have q5 := D5'.out.ent.cell 5
  have f5 := D5'.out.ent.frozen 5
  simp at q0 q1 q2 q3 q4 q5
  obtain ⟨X5, hX5⟩ : ∃ x, x = w5.setCell ⟨E, 2, none⟩ (.int .i64 n) := ⟨_, rfl⟩
  rw [← hX5] at D5
  have hE5 := Lib.hid hX5
  clear hX5 D5'
  have HTL := Lib.hid (show Tells b ⟨4, s, n, ⟨#[]⟩, [], false⟩ r3 from by have h := dec_m (by decide) HT0.out Hr2.out Hr3.out; exact h)
  go_wp2_with fail
  rw [← hE5.out]
  clear hE5 q0 q1 q2 q3 q4 q5 f0 f1 f2 f3 f4 f5
  have hbl : BReads X5 w.heap.size A b := HB.out.below D5.out.bel
  have HBX := Lib.hid hbl
  clear hbl
  refine (encode_any (A := none) (c := 0) ⟨4, s, n, ⟨#[]⟩, [], false⟩ (show BReads _ _ none [] from Reads.none_) (by show (0 : Nat) ≤ _; omega) (by show (0 : Nat) ≤ _; omega)).mono ?_
  rintro e w20 h
  rcases h with ⟨hm, v', rfl, ho, hb⟩ | ⟨hm, rfl, hb⟩
  · obtain ⟨A5, c5, rfl, _, hr5⟩ := BOwns.slice ho
    have D20 := Lib.hid (D5.out.go hb)
    have HM := Lib.hid hm
    have R5 := Lib.hid hr5
    have HB20 := Lib.hid (HB.out.below D20.out.bel)
    obtain ⟨LE, hLE⟩ : ∃ L, L = En.enc ⟨4, s, n, ⟨#[]⟩, [], false⟩ := ⟨_, rfl⟩
    rw [← hLE] at R5 ⊢
    have HLE := Lib.hid hLE
    clear ho hb hr5 hm hLE
    go_wp2_with fail
    by_cases hend : r3.end_ = 0
    · have HEND := Lib.hid hend
      have hea := end_any D20.out.rd
      rw [hend] at hea
      clear hend
      refine hea.mono ?_
      rintro e w21 ⟨rfl, m, hw21⟩
      have D21 := Lib.hid (show DSt w w21 R g E r3 _ from by rw [hw21]; exact D20.out.go (below_drewN (Below.refl _ _) m))
      have HB21 := Lib.hid (HB.out.below D21.out.bel)
      have R521 := Lib.hid (show BReads w21 w20.heap.size A5 LE from by rw [hw21]; exact R5.out)
      clear hea hw21 D20 R5
      go_wp2_with fail
      by_cases heq : LE = b
      · refine (bytesEqual_any R521.out HB21.out).mono ?_
        rintro e w22 ⟨rfl, rfl⟩
        rw [decide_eq_true heq]
        have HEQ := Lib.hid heq
        clear heq
        have q0 := D21.out.ent.cell 0
        have q1 := D21.out.ent.cell 1
        have q2 := D21.out.ent.cell 2
        have q3 := D21.out.ent.cell 3
        have q4 := D21.out.ent.cell 4
        have q5 := D21.out.ent.cell 5
        have z0 := D21.out.res.cell 0
        have g0 := D21.out.res.frozen 0
        have z1 := D21.out.res.cell 1
        have g1 := D21.out.res.frozen 1
        have z2 := D21.out.res.cell 2
        have g2 := D21.out.res.frozen 2
        have z3 := D21.out.res.cell 3
        have g3 := D21.out.res.frozen 3
        have z4 := D21.out.res.cell 4
        have g4 := D21.out.res.frozen 4
        have z5 := D21.out.res.cell 5
        have g5 := D21.out.res.frozen 5
        simp at q0 q1 q2 q3 q4 q5 z0 z1 z2 z3 z4 z5
        have us := 0
        have KR3 := Lib.hid (D21.out.res.put6 (.int .i64 4) (.int .i64 s) (.int .i64 n) (.string ⟨#[]⟩) (.slice none 0 0) (.bool false))
        have B3 := Lib.hid (D21.out.bel.trans ((keeps_set6 w21 R (.int .i64 4) (.int .i64 s) (.int .i64 n) (.string ⟨#[]⟩) (.slice none 0 0) (.bool false)).below D21.out.bel.size (fun i hi => by rw [hi]; exact D21.out.o1)))
        go_wp2
        unfold set6 at KR3 B3
        have y0 := KR3.out.cell 0
        have y1 := KR3.out.cell 1
        have y2 := KR3.out.cell 2
        have y3 := KR3.out.cell 3
        have y4 := KR3.out.cell 4
        have y5 := KR3.out.cell 5
        simp only [List.getElem?_toArray, List.getElem?_cons_zero, List.getElem?_cons_succ] at y0 y1 y2 y3 y4 y5
        exact bodyPost_ret (v := .tuple #[.agg #[.int .i64 4, .int .i64 s, .int .i64 n, .string ⟨#[]⟩, .slice none 0 0, .bool false], .int .i64 0]) (by simp [results, Tryz.results91, go_sem, y0, y1, y2, y3, y4, y5]) rfl (.inl ⟨⟨4, s, n, ⟨#[]⟩, [], false⟩, HM.out, by rw [← HLE.out]; exact HEQ.out, none, 0, rfl, BOwns.nil _ _, B3.out⟩)
      · refine (bytesEqual_any R521.out HB21.out).mono ?_
        rintro e w22 ⟨rfl, rfl⟩
        rw [decide_eq_false heq]
        have HNO := Lib.hid (HTL.out.no (fun h => heq (by rw [HLE.out]; exact h.2.1)))
        clear heq
        have z0 := D21.out.res.cell 0
        have g0 := D21.out.res.frozen 0
        have z1 := D21.out.res.cell 1
        have g1 := D21.out.res.frozen 1
        have z2 := D21.out.res.cell 2
        have g2 := D21.out.res.frozen 2
        have z3 := D21.out.res.cell 3
        have g3 := D21.out.res.frozen 3
        have z4 := D21.out.res.cell 4
        have g4 := D21.out.res.frozen 4
        have z5 := D21.out.res.cell 5
        have g5 := D21.out.res.frozen 5
        simp at z0 z1 z2 z3 z4 z5
        have KR3 := Lib.hid (D21.out.res.put6 (.int .i64 0) (.int .i64 0) (.int .i64 0) (.string ⟨#[]⟩) (.slice none 0 0) (.bool false))
        have B3 := Lib.hid (D21.out.bel.trans ((keeps_set6 w21 R (.int .i64 0) (.int .i64 0) (.int .i64 0) (.string ⟨#[]⟩) (.slice none 0 0) (.bool false)).below D21.out.bel.size (fun i hi => by rw [hi]; exact D21.out.o1)))
        go_wp2
        unfold set6 at KR3 B3
        have y0 := KR3.out.cell 0
        have y1 := KR3.out.cell 1
        have y2 := KR3.out.cell 2
        have y3 := KR3.out.cell 3
        have y4 := KR3.out.cell 4
        have y5 := KR3.out.cell 5
        simp only [List.getElem?_toArray, List.getElem?_cons_zero, List.getElem?_cons_succ] at y0 y1 y2 y3 y4 y5
        exact bodyPost_ret (v := .tuple #[.agg #[.int .i64 0, .int .i64 0, .int .i64 0, .string ⟨#[]⟩, .slice none 0 0, .bool false], .int .i64 100]) (by simp [results, Tryz.results91, go_sem, y0, y1, y2, y3, y4, y5]) rfl (.inr ⟨HNO.out, rfl, B3.out⟩)
    · have HNO := Lib.hid (HTL.out.no (fun h => hend h.2.2))
      have hnz : (r3.end_ != 0) = true := by rw [bne_iff_ne]; exact hend
      clear hend
      refine (end_any D20.out.rd).mono ?_
      rintro e w21 ⟨rfl, m, hw21⟩
      have D21 := Lib.hid (show DSt w w21 R g E r3 _ from by rw [hw21]; exact D20.out.go (below_drewN (Below.refl _ _) m))
      clear hw21
      have z0 := D21.out.res.cell 0
      have g0 := D21.out.res.frozen 0
      have z1 := D21.out.res.cell 1
      have g1 := D21.out.res.frozen 1
      have z2 := D21.out.res.cell 2
      have g2 := D21.out.res.frozen 2
      have z3 := D21.out.res.cell 3
      have g3 := D21.out.res.frozen 3
      have z4 := D21.out.res.cell 4
      have g4 := D21.out.res.frozen 4
      have z5 := D21.out.res.cell 5
      have g5 := D21.out.res.frozen 5
      simp at z0 z1 z2 z3 z4 z5
      have KR3 := Lib.hid (D21.out.res.put6 (.int .i64 0) (.int .i64 0) (.int .i64 0) (.string ⟨#[]⟩) (.slice none 0 0) (.bool false))
      have B3 := Lib.hid (D21.out.bel.trans ((keeps_set6 w21 R (.int .i64 0) (.int .i64 0) (.int .i64 0) (.string ⟨#[]⟩) (.slice none 0 0) (.bool false)).below D21.out.bel.size (fun i hi => by rw [hi]; exact D21.out.o1)))
      go_wp2
      unfold set6 at KR3 B3
      have y0 := KR3.out.cell 0
      have y1 := KR3.out.cell 1
      have y2 := KR3.out.cell 2
      have y3 := KR3.out.cell 3
      have y4 := KR3.out.cell 4
      have y5 := KR3.out.cell 5
      simp only [List.getElem?_toArray, List.getElem?_cons_zero, List.getElem?_cons_succ] at y0 y1 y2 y3 y4 y5
      exact bodyPost_ret (v := .tuple #[.agg #[.int .i64 0, .int .i64 0, .int .i64 0, .string ⟨#[]⟩, .slice none 0 0, .bool false], .int .i64 100]) (by simp [results, Tryz.results91, go_sem, y0, y1, y2, y3, y4, y5]) rfl (.inr ⟨HNO.out, rfl, B3.out⟩)
  · have D20 := Lib.hid (D5.out.go hb)
    have HNO := Lib.hid (HTL.out.no (fun h => hm h.1))
    clear hb hm
    go_wp2_with fail
    by_cases hend : r3.end_ = 0
    · have hea := end_any D20.out.rd
      rw [hend] at hea
      clear hend
      refine hea.mono ?_
      rintro e w21 ⟨rfl, m, hw21⟩
      have D21 := Lib.hid (show DSt w w21 R g E r3 _ from by rw [hw21]; exact D20.out.go (below_drewN (Below.refl _ _) m))
      clear hw21 hea
      have z0 := D21.out.res.cell 0
      have g0 := D21.out.res.frozen 0
      have z1 := D21.out.res.cell 1
      have g1 := D21.out.res.frozen 1
      have z2 := D21.out.res.cell 2
      have g2 := D21.out.res.frozen 2
      have z3 := D21.out.res.cell 3
      have g3 := D21.out.res.frozen 3
      have z4 := D21.out.res.cell 4
      have g4 := D21.out.res.frozen 4
      have z5 := D21.out.res.cell 5
      have g5 := D21.out.res.frozen 5
      simp at z0 z1 z2 z3 z4 z5
      have KR3 := Lib.hid (D21.out.res.put6 (.int .i64 0) (.int .i64 0) (.int .i64 0) (.string ⟨#[]⟩) (.slice none 0 0) (.bool false))
      have B3 := Lib.hid (D21.out.bel.trans ((keeps_set6 w21 R (.int .i64 0) (.int .i64 0) (.int .i64 0) (.string ⟨#[]⟩) (.slice none 0 0) (.bool false)).below D21.out.bel.size (fun i hi => by rw [hi]; exact D21.out.o1)))
      go_wp2
      unfold set6 at KR3 B3
      have y0 := KR3.out.cell 0
      have y1 := KR3.out.cell 1
      have y2 := KR3.out.cell 2
      have y3 := KR3.out.cell 3
      have y4 := KR3.out.cell 4
      have y5 := KR3.out.cell 5
      simp only [List.getElem?_toArray, List.getElem?_cons_zero, List.getElem?_cons_succ] at y0 y1 y2 y3 y4 y5
      exact bodyPost_ret (v := .tuple #[.agg #[.int .i64 0, .int .i64 0, .int .i64 0, .string ⟨#[]⟩, .slice none 0 0, .bool false], .int .i64 100]) (by simp [results, Tryz.results91, go_sem, y0, y1, y2, y3, y4, y5]) rfl (.inr ⟨HNO.out, rfl, B3.out⟩)
    · have hnz : (r3.end_ != 0) = true := by rw [bne_iff_ne]; exact hend
      clear hend
      refine (end_any D20.out.rd).mono ?_
      rintro e w21 ⟨rfl, m, hw21⟩
      have D21 := Lib.hid (show DSt w w21 R g E r3 _ from by rw [hw21]; exact D20.out.go (below_drewN (Below.refl _ _) m))
      clear hw21
      have z0 := D21.out.res.cell 0
      have g0 := D21.out.res.frozen 0
      have z1 := D21.out.res.cell 1
      have g1 := D21.out.res.frozen 1
      have z2 := D21.out.res.cell 2
      have g2 := D21.out.res.frozen 2
      have z3 := D21.out.res.cell 3
      have g3 := D21.out.res.frozen 3
      have z4 := D21.out.res.cell 4
      have g4 := D21.out.res.frozen 4
      have z5 := D21.out.res.cell 5
      have g5 := D21.out.res.frozen 5
      simp at z0 z1 z2 z3 z4 z5
      have KR3 := Lib.hid (D21.out.res.put6 (.int .i64 0) (.int .i64 0) (.int .i64 0) (.string ⟨#[]⟩) (.slice none 0 0) (.bool false))
      have B3 := Lib.hid (D21.out.bel.trans ((keeps_set6 w21 R (.int .i64 0) (.int .i64 0) (.int .i64 0) (.string ⟨#[]⟩) (.slice none 0 0) (.bool false)).below D21.out.bel.size (fun i hi => by rw [hi]; exact D21.out.o1)))
      go_wp2
      unfold set6 at KR3 B3
      have y0 := KR3.out.cell 0
      have y1 := KR3.out.cell 1
      have y2 := KR3.out.cell 2
      have y3 := KR3.out.cell 3
      have y4 := KR3.out.cell 4
      have y5 := KR3.out.cell 5
      simp only [List.getElem?_toArray, List.getElem?_cons_zero, List.getElem?_cons_succ] at y0 y1 y2 y3 y4 y5
      exact bodyPost_ret (v := .tuple #[.agg #[.int .i64 0, .int .i64 0, .int .i64 0, .string ⟨#[]⟩, .slice none 0 0, .bool false], .int .i64 100]) (by simp [results, Tryz.results91, go_sem, y0, y1, y2, y3, y4, y5]) rfl (.inr ⟨HNO.out, rfl, B3.out⟩)
set_option maxRecDepth 100000 in
set_option maxHeartbeats 6400000 in
theorem dec6_any {w : World} {A : Option Addr} {c : Nat} {b : List UInt8} (hr : BReads w w.heap.size A b) (hl : b.length ≤ 140737488355328) (hkk : (Rd.take ⟨b, 0, 0⟩ 1).1 = 6) :
    Calls Tryz.prog 91 #[.slice A b.length c] w (DecPost w b) := by
  have HB := Lib.hid hr
  have BA := Lib.hid ((Below.refl w.heap.size w).alloc (Nat.le_refl _) (.cells #[.int .i64 0, .int .i64 0, .int .i64 0, .string ⟨#[]⟩, .slice none 0 0, .bool false] 105))
  have KR := Lib.hid (Blk.new w 105 #[.int .i64 0, .int .i64 0, .int .i64 0, .string ⟨#[]⟩, .slice none 0 0, .bool false])
  clear hr
  go_enter Tryz.func91, Tryz.ntmps91
  go_wp2_with fail
  obtain ⟨W, hW⟩ : ∃ x, x = w.alloc (.cells #[.int .i64 0, .int .i64 0, .int .i64 0, .string ⟨#[]⟩, .slice none 0 0, .bool false] 105) := ⟨_, rfl⟩
  obtain ⟨R, hR⟩ : ∃ x, x = w.heap.size := ⟨_, rfl⟩
  have hRw : w.heap.size ≤ R := by omega
  rw [← hW, ← hR] at KR
  rw [← hW] at BA
  rw [← hW, ← hR]
  clear hW hR
  refine (open_any (HB.out.below BA.out) (by omega)).mono ?_
  rintro e w1 h
  obtain ⟨g, rfl, hg, hrd, hb⟩ := h.out
  have KR1 := Lib.hid (KR.out.below' hb)
  have hgR : R < g := by have := KR.out.lt; omega
  have B1 := Lib.hid (BA.out.trans (hb.mono BA.out.size))
  have R1 := Lib.hid hrd
  clear h hb hrd KR BA hg
  go_wp2_with fail
  have hx := rdTake8_any R1.out
  obtain ⟨⟨k, r1⟩, hh⟩ : ∃ x, x = Rd.take ⟨b, 0, 0⟩ 1 := ⟨_, rfl⟩
  have HT0 := Lib.hid hh.symm
  obtain rfl : k = 6 := by rw [← hh] at hkk; exact hkk
  rw [← hh] at hx
  clear hh hkk
  refine hx.mono ?_
  rintro e w2 ⟨ha, hr, hk⟩
  obtain rfl : e = .returned (.int .u8 6) := ha
  have B2 := Lib.hid (B1.out.trans (hk.below B1.out.size (fun i hi => by omega)))
  have KR2 := Lib.hid (KR1.out.keeps hk (by omega))
  have RR2 := Lib.hid hr
  clear hx hr hk B1 KR1 R1
  go_wp2_with fail
  have hCE : ∀ kk : Int, DSt w (w2.alloc (.cells #[.int .i64 kk, .int .i64 0, .int .i64 0, .string ⟨#[]⟩, .slice none 0 0, .bool false] 105)) R g w2.heap.size r1 #[.int .i64 kk, .int .i64 0, .int .i64 0, .string ⟨#[]⟩, .slice none 0 0, .bool false] := fun kk =>
    ⟨B2.out.alloc B2.out.size _, KR2.out.alloc _, Blk.new _ _ _, RR2.out.below ((Below.refl _ _).alloc (Nat.le_refl _) _), hRw, hgR, RR2.out.lt⟩
  have HCE := Lib.hid hCE
  clear hCE
  obtain ⟨E, hE⟩ : ∃ x, x = w2.heap.size := ⟨_, rfl⟩
  rw [← hE] at HCE ⊢
  clear hE B2 KR2 RR2
  have D3 := Lib.hid (HCE.out 6)
  obtain ⟨w3, hw3⟩ : ∃ x, x = w2.alloc (.cells #[.int .i64 6, .int .i64 0, .int .i64 0, .string ⟨#[]⟩, .slice none 0 0, .bool false] 105) := ⟨_, rfl⟩
  rw [← hw3] at D3 ⊢
  clear hw3 HCE
  refine (fields_any 6).mono ?_
  rintro e w3' ⟨rfl, rfl⟩
  rw [show fieldsF 6 = 6 from rfl]
  have b1 := and_6_1
  have b2 := and_6_2
  have b4 := and_6_4
  have b8 := and_6_8
  have b16 := and_6_16
  have q0 := D3.out.ent.cell 0
  have f0 := D3.out.ent.frozen 0
  have q1 := D3.out.ent.cell 1
  have f1 := D3.out.ent.frozen 1
  have q2 := D3.out.ent.cell 2
  have f2 := D3.out.ent.frozen 2
  have q3 := D3.out.ent.cell 3
  have f3 := D3.out.ent.frozen 3
  have q4 := D3.out.ent.cell 4
  have f4 := D3.out.ent.frozen 4
  have q5 := D3.out.ent.cell 5
  have f5 := D3.out.ent.frozen 5
  simp at q0 q1 q2 q3 q4 q5
  go_wp2_with fail
  have hx := rdInt_any D3.out.rd 0 4611686018427387904
  obtain ⟨⟨s, r2⟩, hh⟩ : ∃ x, x = r1.int 0 4611686018427387904 := ⟨_, rfl⟩
  have Hr2 := Lib.hid hh.symm
  rw [← hh] at hx
  clear hh
  refine hx.mono ?_
  rintro e w4 ⟨ha, hr, hk⟩
  simp only at ha hr
  obtain rfl : e = .returned (.int .i64 s) := ha
  have D4' := Lib.hid (D3.out.read hr hk)
  have D4 := Lib.hid (show DSt w (w4.setCell ⟨E, 1, none⟩ (.int .i64 s)) R g E r2 #[.int .i64 6, .int .i64 s, .int .i64 0, .string ⟨#[]⟩, .slice none 0 0, .bool false] from by simpa using D4'.out.set 1 (.int .i64 s))
  clear hx hr hk D3
  clear q0 q1 q2 q3 q4 q5 f0 f1 f2 f3 f4 f5
  have q0 := D4'.out.ent.cell 0
  have f0 := D4'.out.ent.frozen 0
  have q1 := D4'.out.ent.cell 1
  have f1 := D4'.out.ent.frozen 1
  have q2 := D4'.out.ent.cell 2
  have f2 := D4'.out.ent.frozen 2
  have q3 := D4'.out.ent.cell 3
  have f3 := D4'.out.ent.frozen 3
  have q4 := D4'.out.ent.cell 4
  have f4 := D4'.out.ent.frozen 4
  have q5 := D4'.out.ent.cell 5
  have f5 := D4'.out.ent.frozen 5
  simp at q0 q1 q2 q3 q4 q5
  obtain ⟨X4, hX4⟩ : ∃ x, x = w4.setCell ⟨E, 1, none⟩ (.int .i64 s) := ⟨_, rfl⟩
  rw [← hX4] at D4
  have hE4 := Lib.hid hX4
  clear hX4 D4'
  go_wp2_with fail
  rw [← hE4.out]
  clear hE4 q0 q1 q2 q3 q4 q5 f0 f1 f2 f3 f4 f5
  have hx := rdInt_any D4.out.rd 0 2147483647
  obtain ⟨⟨n, r3⟩, hh⟩ : ∃ x, x = r2.int 0 2147483647 := ⟨_, rfl⟩
  have Hr3 := Lib.hid hh.symm
  rw [← hh] at hx
  clear hh
  refine hx.mono ?_
  rintro e w5 ⟨ha, hr, hk⟩
  simp only at ha hr
  obtain rfl : e = .returned (.int .i64 n) := ha
  have D5' := Lib.hid (D4.out.read hr hk)
  have D5 := Lib.hid (show DSt w (w5.setCell ⟨E, 2, none⟩ (.int .i64 n)) R g E r3 #[.int .i64 6, .int .i64 s, .int .i64 n, .string ⟨#[]⟩, .slice none 0 0, .bool false] from by simpa using D5'.out.set 2 (.int .i64 n))
  clear hx hr hk D4
  have q0 := D5'.out.ent.cell 0
  have f0 := D5'.out.ent.frozen 0
  have q1 := D5'.out.ent.cell 1
  have f1 := D5'.out.ent.frozen 1
  have q2 := D5'.out.ent.cell 2
  have f2 := D5'.out.ent.frozen 2
  have q3 := D5'.out.ent.cell 3
  have f3 := D5'.out.ent.frozen 3
  have q4 := D5'.out.ent.cell 4
  have f4 := D5'.out.ent.frozen 4
  have q5 := D5'.out.ent.cell 5
  have f5 := D5'.out.ent.frozen 5
  simp at q0 q1 q2 q3 q4 q5
  obtain ⟨X5, hX5⟩ : ∃ x, x = w5.setCell ⟨E, 2, none⟩ (.int .i64 n) := ⟨_, rfl⟩
  rw [← hX5] at D5
  have hE5 := Lib.hid hX5
  clear hX5 D5'
  have HTL := Lib.hid (show Tells b ⟨6, s, n, ⟨#[]⟩, [], false⟩ r3 from by have h := dec_m (by decide) HT0.out Hr2.out Hr3.out; exact h)
  go_wp2_with fail
  rw [← hE5.out]
  clear hE5 q0 q1 q2 q3 q4 q5 f0 f1 f2 f3 f4 f5
  have hbl : BReads X5 w.heap.size A b := HB.out.below D5.out.bel
  have HBX := Lib.hid hbl
  clear hbl
  refine (encode_any (A := none) (c := 0) ⟨6, s, n, ⟨#[]⟩, [], false⟩ (show BReads _ _ none [] from Reads.none_) (by show (0 : Nat) ≤ _; omega) (by show (0 : Nat) ≤ _; omega)).mono ?_
  rintro e w20 h
  rcases h with ⟨hm, v', rfl, ho, hb⟩ | ⟨hm, rfl, hb⟩
  · obtain ⟨A5, c5, rfl, _, hr5⟩ := BOwns.slice ho
    have D20 := Lib.hid (D5.out.go hb)
    have HM := Lib.hid hm
    have R5 := Lib.hid hr5
    have HB20 := Lib.hid (HB.out.below D20.out.bel)
    obtain ⟨LE, hLE⟩ : ∃ L, L = En.enc ⟨6, s, n, ⟨#[]⟩, [], false⟩ := ⟨_, rfl⟩
    rw [← hLE] at R5 ⊢
    have HLE := Lib.hid hLE
    clear ho hb hr5 hm hLE
    go_wp2_with fail
    by_cases hend : r3.end_ = 0
    · have HEND := Lib.hid hend
      have hea := end_any D20.out.rd
      rw [hend] at hea
      clear hend
      refine hea.mono ?_
      rintro e w21 ⟨rfl, m, hw21⟩
      have D21 := Lib.hid (show DSt w w21 R g E r3 _ from by rw [hw21]; exact D20.out.go (below_drewN (Below.refl _ _) m))
      have HB21 := Lib.hid (HB.out.below D21.out.bel)
      have R521 := Lib.hid (show BReads w21 w20.heap.size A5 LE from by rw [hw21]; exact R5.out)
      clear hea hw21 D20 R5
      go_wp2_with fail
      by_cases heq : LE = b
      · refine (bytesEqual_any R521.out HB21.out).mono ?_
        rintro e w22 ⟨rfl, rfl⟩
        rw [decide_eq_true heq]
        have HEQ := Lib.hid heq
        clear heq
        have q0 := D21.out.ent.cell 0
        have q1 := D21.out.ent.cell 1
        have q2 := D21.out.ent.cell 2
        have q3 := D21.out.ent.cell 3
        have q4 := D21.out.ent.cell 4
        have q5 := D21.out.ent.cell 5
        have z0 := D21.out.res.cell 0
        have g0 := D21.out.res.frozen 0
        have z1 := D21.out.res.cell 1
        have g1 := D21.out.res.frozen 1
        have z2 := D21.out.res.cell 2
        have g2 := D21.out.res.frozen 2
        have z3 := D21.out.res.cell 3
        have g3 := D21.out.res.frozen 3
        have z4 := D21.out.res.cell 4
        have g4 := D21.out.res.frozen 4
        have z5 := D21.out.res.cell 5
        have g5 := D21.out.res.frozen 5
        simp at q0 q1 q2 q3 q4 q5 z0 z1 z2 z3 z4 z5
        have us := 0
        have KR3 := Lib.hid (D21.out.res.put6 (.int .i64 6) (.int .i64 s) (.int .i64 n) (.string ⟨#[]⟩) (.slice none 0 0) (.bool false))
        have B3 := Lib.hid (D21.out.bel.trans ((keeps_set6 w21 R (.int .i64 6) (.int .i64 s) (.int .i64 n) (.string ⟨#[]⟩) (.slice none 0 0) (.bool false)).below D21.out.bel.size (fun i hi => by rw [hi]; exact D21.out.o1)))
        go_wp2
        unfold set6 at KR3 B3
        have y0 := KR3.out.cell 0
        have y1 := KR3.out.cell 1
        have y2 := KR3.out.cell 2
        have y3 := KR3.out.cell 3
        have y4 := KR3.out.cell 4
        have y5 := KR3.out.cell 5
        simp only [List.getElem?_toArray, List.getElem?_cons_zero, List.getElem?_cons_succ] at y0 y1 y2 y3 y4 y5
        exact bodyPost_ret (v := .tuple #[.agg #[.int .i64 6, .int .i64 s, .int .i64 n, .string ⟨#[]⟩, .slice none 0 0, .bool false], .int .i64 0]) (by simp [results, Tryz.results91, go_sem, y0, y1, y2, y3, y4, y5]) rfl (.inl ⟨⟨6, s, n, ⟨#[]⟩, [], false⟩, HM.out, by rw [← HLE.out]; exact HEQ.out, none, 0, rfl, BOwns.nil _ _, B3.out⟩)
      · refine (bytesEqual_any R521.out HB21.out).mono ?_
        rintro e w22 ⟨rfl, rfl⟩
        rw [decide_eq_false heq]
        have HNO := Lib.hid (HTL.out.no (fun h => heq (by rw [HLE.out]; exact h.2.1)))
        clear heq
        have z0 := D21.out.res.cell 0
        have g0 := D21.out.res.frozen 0
        have z1 := D21.out.res.cell 1
        have g1 := D21.out.res.frozen 1
        have z2 := D21.out.res.cell 2
        have g2 := D21.out.res.frozen 2
        have z3 := D21.out.res.cell 3
        have g3 := D21.out.res.frozen 3
        have z4 := D21.out.res.cell 4
        have g4 := D21.out.res.frozen 4
        have z5 := D21.out.res.cell 5
        have g5 := D21.out.res.frozen 5
        simp at z0 z1 z2 z3 z4 z5
        have KR3 := Lib.hid (D21.out.res.put6 (.int .i64 0) (.int .i64 0) (.int .i64 0) (.string ⟨#[]⟩) (.slice none 0 0) (.bool false))
        have B3 := Lib.hid (D21.out.bel.trans ((keeps_set6 w21 R (.int .i64 0) (.int .i64 0) (.int .i64 0) (.string ⟨#[]⟩) (.slice none 0 0) (.bool false)).below D21.out.bel.size (fun i hi => by rw [hi]; exact D21.out.o1)))
        go_wp2
        unfold set6 at KR3 B3
        have y0 := KR3.out.cell 0
        have y1 := KR3.out.cell 1
        have y2 := KR3.out.cell 2
        have y3 := KR3.out.cell 3
        have y4 := KR3.out.cell 4
        have y5 := KR3.out.cell 5
        simp only [List.getElem?_toArray, List.getElem?_cons_zero, List.getElem?_cons_succ] at y0 y1 y2 y3 y4 y5
        exact bodyPost_ret (v := .tuple #[.agg #[.int .i64 0, .int .i64 0, .int .i64 0, .string ⟨#[]⟩, .slice none 0 0, .bool false], .int .i64 100]) (by simp [results, Tryz.results91, go_sem, y0, y1, y2, y3, y4, y5]) rfl (.inr ⟨HNO.out, rfl, B3.out⟩)
    · have HNO := Lib.hid (HTL.out.no (fun h => hend h.2.2))
      have hnz : (r3.end_ != 0) = true := by rw [bne_iff_ne]; exact hend
      clear hend
      refine (end_any D20.out.rd).mono ?_
      rintro e w21 ⟨rfl, m, hw21⟩
      have D21 := Lib.hid (show DSt w w21 R g E r3 _ from by rw [hw21]; exact D20.out.go (below_drewN (Below.refl _ _) m))
      clear hw21
      have z0 := D21.out.res.cell 0
      have g0 := D21.out.res.frozen 0
      have z1 := D21.out.res.cell 1
      have g1 := D21.out.res.frozen 1
      have z2 := D21.out.res.cell 2
      have g2 := D21.out.res.frozen 2
      have z3 := D21.out.res.cell 3
      have g3 := D21.out.res.frozen 3
      have z4 := D21.out.res.cell 4
      have g4 := D21.out.res.frozen 4
      have z5 := D21.out.res.cell 5
      have g5 := D21.out.res.frozen 5
      simp at z0 z1 z2 z3 z4 z5
      have KR3 := Lib.hid (D21.out.res.put6 (.int .i64 0) (.int .i64 0) (.int .i64 0) (.string ⟨#[]⟩) (.slice none 0 0) (.bool false))
      have B3 := Lib.hid (D21.out.bel.trans ((keeps_set6 w21 R (.int .i64 0) (.int .i64 0) (.int .i64 0) (.string ⟨#[]⟩) (.slice none 0 0) (.bool false)).below D21.out.bel.size (fun i hi => by rw [hi]; exact D21.out.o1)))
      go_wp2
      unfold set6 at KR3 B3
      have y0 := KR3.out.cell 0
      have y1 := KR3.out.cell 1
      have y2 := KR3.out.cell 2
      have y3 := KR3.out.cell 3
      have y4 := KR3.out.cell 4
      have y5 := KR3.out.cell 5
      simp only [List.getElem?_toArray, List.getElem?_cons_zero, List.getElem?_cons_succ] at y0 y1 y2 y3 y4 y5
      exact bodyPost_ret (v := .tuple #[.agg #[.int .i64 0, .int .i64 0, .int .i64 0, .string ⟨#[]⟩, .slice none 0 0, .bool false], .int .i64 100]) (by simp [results, Tryz.results91, go_sem, y0, y1, y2, y3, y4, y5]) rfl (.inr ⟨HNO.out, rfl, B3.out⟩)
  · have D20 := Lib.hid (D5.out.go hb)
    have HNO := Lib.hid (HTL.out.no (fun h => hm h.1))
    clear hb hm
    go_wp2_with fail
    by_cases hend : r3.end_ = 0
    · have hea := end_any D20.out.rd
      rw [hend] at hea
      clear hend
      refine hea.mono ?_
      rintro e w21 ⟨rfl, m, hw21⟩
      have D21 := Lib.hid (show DSt w w21 R g E r3 _ from by rw [hw21]; exact D20.out.go (below_drewN (Below.refl _ _) m))
      clear hw21 hea
      have z0 := D21.out.res.cell 0
      have g0 := D21.out.res.frozen 0
      have z1 := D21.out.res.cell 1
      have g1 := D21.out.res.frozen 1
      have z2 := D21.out.res.cell 2
      have g2 := D21.out.res.frozen 2
      have z3 := D21.out.res.cell 3
      have g3 := D21.out.res.frozen 3
      have z4 := D21.out.res.cell 4
      have g4 := D21.out.res.frozen 4
      have z5 := D21.out.res.cell 5
      have g5 := D21.out.res.frozen 5
      simp at z0 z1 z2 z3 z4 z5
      have KR3 := Lib.hid (D21.out.res.put6 (.int .i64 0) (.int .i64 0) (.int .i64 0) (.string ⟨#[]⟩) (.slice none 0 0) (.bool false))
      have B3 := Lib.hid (D21.out.bel.trans ((keeps_set6 w21 R (.int .i64 0) (.int .i64 0) (.int .i64 0) (.string ⟨#[]⟩) (.slice none 0 0) (.bool false)).below D21.out.bel.size (fun i hi => by rw [hi]; exact D21.out.o1)))
      go_wp2
      unfold set6 at KR3 B3
      have y0 := KR3.out.cell 0
      have y1 := KR3.out.cell 1
      have y2 := KR3.out.cell 2
      have y3 := KR3.out.cell 3
      have y4 := KR3.out.cell 4
      have y5 := KR3.out.cell 5
      simp only [List.getElem?_toArray, List.getElem?_cons_zero, List.getElem?_cons_succ] at y0 y1 y2 y3 y4 y5
      exact bodyPost_ret (v := .tuple #[.agg #[.int .i64 0, .int .i64 0, .int .i64 0, .string ⟨#[]⟩, .slice none 0 0, .bool false], .int .i64 100]) (by simp [results, Tryz.results91, go_sem, y0, y1, y2, y3, y4, y5]) rfl (.inr ⟨HNO.out, rfl, B3.out⟩)
    · have hnz : (r3.end_ != 0) = true := by rw [bne_iff_ne]; exact hend
      clear hend
      refine (end_any D20.out.rd).mono ?_
      rintro e w21 ⟨rfl, m, hw21⟩
      have D21 := Lib.hid (show DSt w w21 R g E r3 _ from by rw [hw21]; exact D20.out.go (below_drewN (Below.refl _ _) m))
      clear hw21
      have z0 := D21.out.res.cell 0
      have g0 := D21.out.res.frozen 0
      have z1 := D21.out.res.cell 1
      have g1 := D21.out.res.frozen 1
      have z2 := D21.out.res.cell 2
      have g2 := D21.out.res.frozen 2
      have z3 := D21.out.res.cell 3
      have g3 := D21.out.res.frozen 3
      have z4 := D21.out.res.cell 4
      have g4 := D21.out.res.frozen 4
      have z5 := D21.out.res.cell 5
      have g5 := D21.out.res.frozen 5
      simp at z0 z1 z2 z3 z4 z5
      have KR3 := Lib.hid (D21.out.res.put6 (.int .i64 0) (.int .i64 0) (.int .i64 0) (.string ⟨#[]⟩) (.slice none 0 0) (.bool false))
      have B3 := Lib.hid (D21.out.bel.trans ((keeps_set6 w21 R (.int .i64 0) (.int .i64 0) (.int .i64 0) (.string ⟨#[]⟩) (.slice none 0 0) (.bool false)).below D21.out.bel.size (fun i hi => by rw [hi]; exact D21.out.o1)))
      go_wp2
      unfold set6 at KR3 B3
      have y0 := KR3.out.cell 0
      have y1 := KR3.out.cell 1
      have y2 := KR3.out.cell 2
      have y3 := KR3.out.cell 3
      have y4 := KR3.out.cell 4
      have y5 := KR3.out.cell 5
      simp only [List.getElem?_toArray, List.getElem?_cons_zero, List.getElem?_cons_succ] at y0 y1 y2 y3 y4 y5
      exact bodyPost_ret (v := .tuple #[.agg #[.int .i64 0, .int .i64 0, .int .i64 0, .string ⟨#[]⟩, .slice none 0 0, .bool false], .int .i64 100]) (by simp [results, Tryz.results91, go_sem, y0, y1, y2, y3, y4, y5]) rfl (.inr ⟨HNO.out, rfl, B3.out⟩)
set_option maxRecDepth 100000 in
set_option maxHeartbeats 6400000 in
theorem dec5_any {w : World} {A : Option Addr} {c : Nat} {b : List UInt8} (hr : BReads w w.heap.size A b) (hl : b.length ≤ 140737488355328) (hkk : (Rd.take ⟨b, 0, 0⟩ 1).1 = 5) :
    Calls Tryz.prog 91 #[.slice A b.length c] w (DecPost w b) := by
  have HB := Lib.hid hr
  have BA := Lib.hid ((Below.refl w.heap.size w).alloc (Nat.le_refl _) (.cells #[.int .i64 0, .int .i64 0, .int .i64 0, .string ⟨#[]⟩, .slice none 0 0, .bool false] 105))
  have KR := Lib.hid (Blk.new w 105 #[.int .i64 0, .int .i64 0, .int .i64 0, .string ⟨#[]⟩, .slice none 0 0, .bool false])
  clear hr
  go_enter Tryz.func91, Tryz.ntmps91
  go_wp2_with fail
  obtain ⟨W, hW⟩ : ∃ x, x = w.alloc (.cells #[.int .i64 0, .int .i64 0, .int .i64 0, .string ⟨#[]⟩, .slice none 0 0, .bool false] 105) := ⟨_, rfl⟩
  obtain ⟨R, hR⟩ : ∃ x, x = w.heap.size := ⟨_, rfl⟩
  have hRw : w.heap.size ≤ R := by omega
  rw [← hW, ← hR] at KR
  rw [← hW] at BA
  rw [← hW, ← hR]
  clear hW hR
  refine (open_any (HB.out.below BA.out) (by omega)).mono ?_
  rintro e w1 h
  obtain ⟨g, rfl, hg, hrd, hb⟩ := h.out
  have KR1 := Lib.hid (KR.out.below' hb)
  have hgR : R < g := by have := KR.out.lt; omega
  have B1 := Lib.hid (BA.out.trans (hb.mono BA.out.size))
  have R1 := Lib.hid hrd
  clear h hb hrd KR BA hg
  go_wp2_with fail
  have hx := rdTake8_any R1.out
  obtain ⟨⟨k, r1⟩, hh⟩ : ∃ x, x = Rd.take ⟨b, 0, 0⟩ 1 := ⟨_, rfl⟩
  have HT0 := Lib.hid hh.symm
  obtain rfl : k = 5 := by rw [← hh] at hkk; exact hkk
  rw [← hh] at hx
  clear hh hkk
  refine hx.mono ?_
  rintro e w2 ⟨ha, hr, hk⟩
  obtain rfl : e = .returned (.int .u8 5) := ha
  have B2 := Lib.hid (B1.out.trans (hk.below B1.out.size (fun i hi => by omega)))
  have KR2 := Lib.hid (KR1.out.keeps hk (by omega))
  have RR2 := Lib.hid hr
  clear hx hr hk B1 KR1 R1
  go_wp2_with fail
  have hCE : ∀ kk : Int, DSt w (w2.alloc (.cells #[.int .i64 kk, .int .i64 0, .int .i64 0, .string ⟨#[]⟩, .slice none 0 0, .bool false] 105)) R g w2.heap.size r1 #[.int .i64 kk, .int .i64 0, .int .i64 0, .string ⟨#[]⟩, .slice none 0 0, .bool false] := fun kk =>
    ⟨B2.out.alloc B2.out.size _, KR2.out.alloc _, Blk.new _ _ _, RR2.out.below ((Below.refl _ _).alloc (Nat.le_refl _) _), hRw, hgR, RR2.out.lt⟩
  have HCE := Lib.hid hCE
  clear hCE
  obtain ⟨E, hE⟩ : ∃ x, x = w2.heap.size := ⟨_, rfl⟩
  rw [← hE] at HCE ⊢
  clear hE B2 KR2 RR2
  have D3 := Lib.hid (HCE.out 5)
  obtain ⟨w3, hw3⟩ : ∃ x, x = w2.alloc (.cells #[.int .i64 5, .int .i64 0, .int .i64 0, .string ⟨#[]⟩, .slice none 0 0, .bool false] 105) := ⟨_, rfl⟩
  rw [← hw3] at D3 ⊢
  clear hw3 HCE
  refine (fields_any 5).mono ?_
  rintro e w3' ⟨rfl, rfl⟩
  rw [show fieldsF 5 = 27 from rfl]
  have b1 := and_27_1
  have b2 := and_27_2
  have b4 := and_27_4
  have b8 := and_27_8
  have b16 := and_27_16
  have q0 := D3.out.ent.cell 0
  have f0 := D3.out.ent.frozen 0
  have q1 := D3.out.ent.cell 1
  have f1 := D3.out.ent.frozen 1
  have q2 := D3.out.ent.cell 2
  have f2 := D3.out.ent.frozen 2
  have q3 := D3.out.ent.cell 3
  have f3 := D3.out.ent.frozen 3
  have q4 := D3.out.ent.cell 4
  have f4 := D3.out.ent.frozen 4
  have q5 := D3.out.ent.cell 5
  have f5 := D3.out.ent.frozen 5
  simp at q0 q1 q2 q3 q4 q5
  go_wp2_with fail
  have hx := rdText_any D3.out.rd 255
  obtain ⟨⟨p1, r2⟩, hh⟩ : ∃ x, x = r1.bytes 255 := ⟨_, rfl⟩
  have Hr2 := Lib.hid hh.symm
  rw [← hh] at hx
  clear hh
  refine hx.mono ?_
  rintro e w4 ⟨ha, hr, hk⟩
  simp only at ha hr
  obtain ⟨key, hkey⟩ : ∃ s : ByteArray, s = ⟨p1.toArray⟩ := ⟨_, rfl⟩
  obtain rfl : e = .returned (.string key) := by rw [hkey]; exact ha
  have HKEY := Lib.hid hkey
  clear hkey
  have D4' := Lib.hid (D3.out.read hr hk)
  have D4 := Lib.hid (show DSt w (w4.setCell ⟨E, 3, none⟩ (.string key)) R g E r2 #[.int .i64 5, .int .i64 0, .int .i64 0, .string key, .slice none 0 0, .bool false] from by simpa using D4'.out.set 3 (.string key))
  clear hx hr hk ha D3
  clear q0 q1 q2 q3 q4 q5 f0 f1 f2 f3 f4 f5
  have q0 := D4'.out.ent.cell 0
  have f0 := D4'.out.ent.frozen 0
  have q1 := D4'.out.ent.cell 1
  have f1 := D4'.out.ent.frozen 1
  have q2 := D4'.out.ent.cell 2
  have f2 := D4'.out.ent.frozen 2
  have q3 := D4'.out.ent.cell 3
  have f3 := D4'.out.ent.frozen 3
  have q4 := D4'.out.ent.cell 4
  have f4 := D4'.out.ent.frozen 4
  have q5 := D4'.out.ent.cell 5
  have f5 := D4'.out.ent.frozen 5
  simp at q0 q1 q2 q3 q4 q5
  obtain ⟨X4, hX4⟩ : ∃ x, x = w4.setCell ⟨E, 3, none⟩ (.string key) := ⟨_, rfl⟩
  rw [← hX4] at D4
  have hE4 := Lib.hid hX4
  clear hX4 D4'
  go_wp2_with fail
  rw [← hE4.out]
  clear hE4 q0 q1 q2 q3 q4 q5 f0 f1 f2 f3 f4 f5
  have hx := rdInt_any D4.out.rd 0 4611686018427387904
  obtain ⟨⟨s, r3⟩, hh⟩ : ∃ x, x = r2.int 0 4611686018427387904 := ⟨_, rfl⟩
  have Hr3 := Lib.hid hh.symm
  rw [← hh] at hx
  clear hh
  refine hx.mono ?_
  rintro e w5 ⟨ha, hr, hk⟩
  simp only at ha hr
  obtain rfl : e = .returned (.int .i64 s) := ha
  have D5' := Lib.hid (D4.out.read hr hk)
  have D5 := Lib.hid (show DSt w (w5.setCell ⟨E, 1, none⟩ (.int .i64 s)) R g E r3 #[.int .i64 5, .int .i64 s, .int .i64 0, .string key, .slice none 0 0, .bool false] from by simpa using D5'.out.set 1 (.int .i64 s))
  clear hx hr hk D4
  have q0 := D5'.out.ent.cell 0
  have f0 := D5'.out.ent.frozen 0
  have q1 := D5'.out.ent.cell 1
  have f1 := D5'.out.ent.frozen 1
  have q2 := D5'.out.ent.cell 2
  have f2 := D5'.out.ent.frozen 2
  have q3 := D5'.out.ent.cell 3
  have f3 := D5'.out.ent.frozen 3
  have q4 := D5'.out.ent.cell 4
  have f4 := D5'.out.ent.frozen 4
  have q5 := D5'.out.ent.cell 5
  have f5 := D5'.out.ent.frozen 5
  simp at q0 q1 q2 q3 q4 q5
  obtain ⟨X5, hX5⟩ : ∃ x, x = w5.setCell ⟨E, 1, none⟩ (.int .i64 s) := ⟨_, rfl⟩
  rw [← hX5] at D5
  have hE5 := Lib.hid hX5
  clear hX5 D5'
  go_wp2_with fail
  rw [← hE5.out]
  clear hE5 q0 q1 q2 q3 q4 q5 f0 f1 f2 f3 f4 f5
  have hx := rdTake8_any D5.out.rd
  obtain ⟨⟨dk, r4⟩, hh⟩ : ∃ x, x = r3.take 1 := ⟨_, rfl⟩
  have Hr4 := Lib.hid hh.symm
  rw [← hh] at hx
  clear hh
  refine hx.mono ?_
  rintro e w6 ⟨ha, hr, hk⟩
  simp only at ha hr
  obtain rfl : e = .returned (.int .u8 dk) := ha
  obtain ⟨dd, hdd⟩ : ∃ dd : Bool, dd = decide (dk = 1) := ⟨_, rfl⟩
  have hdk : ((dk : Int) == 1) = dd := by rw [hdd, Bool.eq_iff_iff]; simp; omega
  have HDD := Lib.hid hdd
  clear hdd
  have D6' := Lib.hid (D5.out.read hr hk)
  have D6 := Lib.hid (show DSt w (w6.setCell ⟨E, 5, none⟩ (.bool dd)) R g E r4 #[.int .i64 5, .int .i64 s, .int .i64 0, .string key, .slice none 0 0, .bool dd] from by simpa using D6'.out.set 5 (.bool dd))
  clear hx hr hk D5
  have q0 := D6'.out.ent.cell 0
  have f0 := D6'.out.ent.frozen 0
  have q1 := D6'.out.ent.cell 1
  have f1 := D6'.out.ent.frozen 1
  have q2 := D6'.out.ent.cell 2
  have f2 := D6'.out.ent.frozen 2
  have q3 := D6'.out.ent.cell 3
  have f3 := D6'.out.ent.frozen 3
  have q4 := D6'.out.ent.cell 4
  have f4 := D6'.out.ent.frozen 4
  have q5 := D6'.out.ent.cell 5
  have f5 := D6'.out.ent.frozen 5
  simp at q0 q1 q2 q3 q4 q5
  obtain ⟨X6, hX6⟩ : ∃ x, x = w6.setCell ⟨E, 5, none⟩ (.bool dd) := ⟨_, rfl⟩
  rw [← hX6] at D6
  have hE6 := Lib.hid hX6
  clear hX6 D6'
  go_wp2_with fail
  rw [← hE6.out]
  clear hE6 q0 q1 q2 q3 q4 q5 f0 f1 f2 f3 f4 f5
  have hx := rdBytes_any D6.out.rd 4096
  obtain ⟨⟨p2, r5⟩, hh⟩ : ∃ x, x = r4.bytes 4096 := ⟨_, rfl⟩
  have Hr5 := Lib.hid hh.symm
  rw [← hh] at hx
  clear hh
  refine hx.mono ?_
  rintro e w7 ⟨ha, hr, hk⟩
  simp only at ha hr
  obtain ⟨v, rfl, ho⟩ := ha
  obtain ⟨Av, cv, rfl, _, _⟩ := BOwns.slice ho
  have D7' := Lib.hid (D6.out.read hr hk)
  have D7 := Lib.hid (show DSt w (w7.setCell ⟨E, 4, none⟩ (.slice Av p2.length cv)) R g E r5 #[.int .i64 5, .int .i64 s, .int .i64 0, .string key, .slice Av p2.length cv, .bool dd] from by simpa using D7'.out.set 4 (.slice Av p2.length cv))
  have OV := Lib.hid (BOwns.setE D7'.out (owns_less ho D6.out.bel.size) 4 (.slice Av p2.length cv))
  clear ho
  clear hx hr hk D6
  have q0 := D7'.out.ent.cell 0
  have f0 := D7'.out.ent.frozen 0
  have q1 := D7'.out.ent.cell 1
  have f1 := D7'.out.ent.frozen 1
  have q2 := D7'.out.ent.cell 2
  have f2 := D7'.out.ent.frozen 2
  have q3 := D7'.out.ent.cell 3
  have f3 := D7'.out.ent.frozen 3
  have q4 := D7'.out.ent.cell 4
  have f4 := D7'.out.ent.frozen 4
  have q5 := D7'.out.ent.cell 5
  have f5 := D7'.out.ent.frozen 5
  simp at q0 q1 q2 q3 q4 q5
  obtain ⟨X7, hX7⟩ : ∃ x, x = w7.setCell ⟨E, 4, none⟩ (.slice Av p2.length cv) := ⟨_, rfl⟩
  rw [← hX7] at D7
  rw [← hX7] at OV
  have hE7 := Lib.hid hX7
  clear hX7 D7'
  have HTL := Lib.hid (show Tells b ⟨5, s, 0, key, p2, dd⟩ r5 from by have h := dec_5 HT0.out Hr2.out Hr3.out Hr4.out Hr5.out; rw [← HKEY.out] at h; rw [← HDD.out] at h; exact h)
  have HKS := Lib.hid (show key.size ≤ b.length from by
    have h := r1.bytes_len 255
    rw [Hr2.out] at h
    have hl1 : r1.l = b := by have := Rd.step_l ⟨b, 0, 0⟩ 0 (takeF 1 (b.drop 0)); rw [show Rd.step ⟨b, 0, 0⟩ 0 (takeF 1 (b.drop 0)) = _ from HT0.out] at this; exact this
    rw [hl1] at h
    rw [HKEY.out]; exact h)
  have HVL := Lib.hid (show p2.length ≤ b.length from by
    have hl1 : r1.l = b := by have := Rd.step_l ⟨b, 0, 0⟩ 0 (takeF 1 (b.drop 0)); rw [show Rd.step ⟨b, 0, 0⟩ 0 (takeF 1 (b.drop 0)) = _ from HT0.out] at this; exact this
    have hr2 : r2.l = b := by have := Rd.step_l r1 [] (blockF 255 (r1.l.drop r1.at_)); rw [show Rd.step r1 [] (blockF 255 (r1.l.drop r1.at_)) = _ from Hr2.out] at this; exact this.trans hl1
    have hr3 : r3.l = b := by have := Rd.step_l r2 0 (numberF 0 4611686018427387904 (r2.l.drop r2.at_)); rw [show Rd.step r2 0 (numberF 0 4611686018427387904 (r2.l.drop r2.at_)) = _ from Hr3.out] at this; exact this.trans hr2
    have hr4 : r4.l = b := by have := Rd.step_l r3 0 (takeF 1 (r3.l.drop r3.at_)); rw [show Rd.step r3 0 (takeF 1 (r3.l.drop r3.at_)) = _ from Hr4.out] at this; exact this.trans hr3
    have h := r4.bytes_len 4096
    rw [Hr5.out] at h
    rw [hr4] at h
    exact h)
  go_wp2_with fail
  rw [← hE7.out]
  clear hE7 q0 q1 q2 q3 q4 q5 f0 f1 f2 f3 f4 f5
  have hbl : BReads X7 w.heap.size A b := HB.out.below D7.out.bel
  have HBX := Lib.hid hbl
  clear hbl
  refine (encode_any (A := Av) (c := cv) ⟨5, s, 0, key, p2, dd⟩ (BOwns.reads OV.out) (by show key.size ≤ _; have := HKS.out; omega) (by show p2.length ≤ _; have := HVL.out; omega)).mono ?_
  rintro e w20 h
  rcases h with ⟨hm, v', rfl, ho, hb⟩ | ⟨hm, rfl, hb⟩
  · obtain ⟨A5, c5, rfl, _, hr5⟩ := BOwns.slice ho
    have D20 := Lib.hid (D7.out.go hb)
    have HM := Lib.hid hm
    have R5 := Lib.hid hr5
    have HB20 := Lib.hid (HB.out.below D20.out.bel)
    have OV20 := Lib.hid (BOwns.below OV.out hb)
    obtain ⟨LE, hLE⟩ : ∃ L, L = En.enc ⟨5, s, 0, key, p2, dd⟩ := ⟨_, rfl⟩
    rw [← hLE] at R5 ⊢
    have HLE := Lib.hid hLE
    clear ho hb hr5 hm hLE
    go_wp2_with fail
    by_cases hend : r5.end_ = 0
    · have HEND := Lib.hid hend
      have hea := end_any D20.out.rd
      rw [hend] at hea
      clear hend
      refine hea.mono ?_
      rintro e w21 ⟨rfl, m, hw21⟩
      have D21 := Lib.hid (show DSt w w21 R g E r5 _ from by rw [hw21]; exact D20.out.go (below_drewN (Below.refl _ _) m))
      have HB21 := Lib.hid (HB.out.below D21.out.bel)
      have R521 := Lib.hid (show BReads w21 w20.heap.size A5 LE from by rw [hw21]; exact R5.out)
      have OV21 := Lib.hid (show BOwns w21 w.heap.size (.slice Av p2.length cv) p2 from by rw [hw21]; exact BOwns.below OV20.out (below_drewN (Below.refl _ _) m))
      clear hea hw21 D20 R5
      go_wp2_with fail
      by_cases heq : LE = b
      · refine (bytesEqual_any R521.out HB21.out).mono ?_
        rintro e w22 ⟨rfl, rfl⟩
        rw [decide_eq_true heq]
        have HEQ := Lib.hid heq
        clear heq
        have q0 := D21.out.ent.cell 0
        have q1 := D21.out.ent.cell 1
        have q2 := D21.out.ent.cell 2
        have q3 := D21.out.ent.cell 3
        have q4 := D21.out.ent.cell 4
        have q5 := D21.out.ent.cell 5
        have z0 := D21.out.res.cell 0
        have g0 := D21.out.res.frozen 0
        have z1 := D21.out.res.cell 1
        have g1 := D21.out.res.frozen 1
        have z2 := D21.out.res.cell 2
        have g2 := D21.out.res.frozen 2
        have z3 := D21.out.res.cell 3
        have g3 := D21.out.res.frozen 3
        have z4 := D21.out.res.cell 4
        have g4 := D21.out.res.frozen 4
        have z5 := D21.out.res.cell 5
        have g5 := D21.out.res.frozen 5
        simp at q0 q1 q2 q3 q4 q5 z0 z1 z2 z3 z4 z5
        have us := 0
        have KR3 := Lib.hid (D21.out.res.put6 (.int .i64 5) (.int .i64 s) (.int .i64 0) (.string key) (.slice Av p2.length cv) (.bool dd))
        have B3 := Lib.hid (D21.out.bel.trans ((keeps_set6 w21 R (.int .i64 5) (.int .i64 s) (.int .i64 0) (.string key) (.slice Av p2.length cv) (.bool dd)).below D21.out.bel.size (fun i hi => by rw [hi]; exact D21.out.o1)))
        have OV3 := Lib.hid (OV21.out.farBlk D21.out.res (by decide) (keeps_set6 w21 R (.int .i64 5) (.int .i64 s) (.int .i64 0) (.string key) (.slice Av p2.length cv) (.bool dd)))
        go_wp2
        unfold set6 at KR3 B3 OV3
        have y0 := KR3.out.cell 0
        have y1 := KR3.out.cell 1
        have y2 := KR3.out.cell 2
        have y3 := KR3.out.cell 3
        have y4 := KR3.out.cell 4
        have y5 := KR3.out.cell 5
        simp only [List.getElem?_toArray, List.getElem?_cons_zero, List.getElem?_cons_succ] at y0 y1 y2 y3 y4 y5
        exact bodyPost_ret (v := .tuple #[.agg #[.int .i64 5, .int .i64 s, .int .i64 0, .string key, .slice Av p2.length cv, .bool dd], .int .i64 0]) (by simp [results, Tryz.results91, go_sem, y0, y1, y2, y3, y4, y5]) rfl (.inl ⟨⟨5, s, 0, key, p2, dd⟩, HM.out, by rw [← HLE.out]; exact HEQ.out, Av, cv, rfl, OV3.out, B3.out⟩)
      · refine (bytesEqual_any R521.out HB21.out).mono ?_
        rintro e w22 ⟨rfl, rfl⟩
        rw [decide_eq_false heq]
        have HNO := Lib.hid (HTL.out.no (fun h => heq (by rw [HLE.out]; exact h.2.1)))
        clear heq
        have z0 := D21.out.res.cell 0
        have g0 := D21.out.res.frozen 0
        have z1 := D21.out.res.cell 1
        have g1 := D21.out.res.frozen 1
        have z2 := D21.out.res.cell 2
        have g2 := D21.out.res.frozen 2
        have z3 := D21.out.res.cell 3
        have g3 := D21.out.res.frozen 3
        have z4 := D21.out.res.cell 4
        have g4 := D21.out.res.frozen 4
        have z5 := D21.out.res.cell 5
        have g5 := D21.out.res.frozen 5
        simp at z0 z1 z2 z3 z4 z5
        have KR3 := Lib.hid (D21.out.res.put6 (.int .i64 0) (.int .i64 0) (.int .i64 0) (.string ⟨#[]⟩) (.slice none 0 0) (.bool false))
        have B3 := Lib.hid (D21.out.bel.trans ((keeps_set6 w21 R (.int .i64 0) (.int .i64 0) (.int .i64 0) (.string ⟨#[]⟩) (.slice none 0 0) (.bool false)).below D21.out.bel.size (fun i hi => by rw [hi]; exact D21.out.o1)))
        go_wp2
        unfold set6 at KR3 B3
        have y0 := KR3.out.cell 0
        have y1 := KR3.out.cell 1
        have y2 := KR3.out.cell 2
        have y3 := KR3.out.cell 3
        have y4 := KR3.out.cell 4
        have y5 := KR3.out.cell 5
        simp only [List.getElem?_toArray, List.getElem?_cons_zero, List.getElem?_cons_succ] at y0 y1 y2 y3 y4 y5
        exact bodyPost_ret (v := .tuple #[.agg #[.int .i64 0, .int .i64 0, .int .i64 0, .string ⟨#[]⟩, .slice none 0 0, .bool false], .int .i64 100]) (by simp [results, Tryz.results91, go_sem, y0, y1, y2, y3, y4, y5]) rfl (.inr ⟨HNO.out, rfl, B3.out⟩)
    · have HNO := Lib.hid (HTL.out.no (fun h => hend h.2.2))
      have hnz : (r5.end_ != 0) = true := by rw [bne_iff_ne]; exact hend
      clear hend
      refine (end_any D20.out.rd).mono ?_
      rintro e w21 ⟨rfl, m, hw21⟩
      have D21 := Lib.hid (show DSt w w21 R g E r5 _ from by rw [hw21]; exact D20.out.go (below_drewN (Below.refl _ _) m))
      clear hw21
      have z0 := D21.out.res.cell 0
      have g0 := D21.out.res.frozen 0
      have z1 := D21.out.res.cell 1
      have g1 := D21.out.res.frozen 1
      have z2 := D21.out.res.cell 2
      have g2 := D21.out.res.frozen 2
      have z3 := D21.out.res.cell 3
      have g3 := D21.out.res.frozen 3
      have z4 := D21.out.res.cell 4
      have g4 := D21.out.res.frozen 4
      have z5 := D21.out.res.cell 5
      have g5 := D21.out.res.frozen 5
      simp at z0 z1 z2 z3 z4 z5
      have KR3 := Lib.hid (D21.out.res.put6 (.int .i64 0) (.int .i64 0) (.int .i64 0) (.string ⟨#[]⟩) (.slice none 0 0) (.bool false))
      have B3 := Lib.hid (D21.out.bel.trans ((keeps_set6 w21 R (.int .i64 0) (.int .i64 0) (.int .i64 0) (.string ⟨#[]⟩) (.slice none 0 0) (.bool false)).below D21.out.bel.size (fun i hi => by rw [hi]; exact D21.out.o1)))
      go_wp2
      unfold set6 at KR3 B3
      have y0 := KR3.out.cell 0
      have y1 := KR3.out.cell 1
      have y2 := KR3.out.cell 2
      have y3 := KR3.out.cell 3
      have y4 := KR3.out.cell 4
      have y5 := KR3.out.cell 5
      simp only [List.getElem?_toArray, List.getElem?_cons_zero, List.getElem?_cons_succ] at y0 y1 y2 y3 y4 y5
      exact bodyPost_ret (v := .tuple #[.agg #[.int .i64 0, .int .i64 0, .int .i64 0, .string ⟨#[]⟩, .slice none 0 0, .bool false], .int .i64 100]) (by simp [results, Tryz.results91, go_sem, y0, y1, y2, y3, y4, y5]) rfl (.inr ⟨HNO.out, rfl, B3.out⟩)
  · have D20 := Lib.hid (D7.out.go hb)
    have HNO := Lib.hid (HTL.out.no (fun h => hm h.1))
    clear hb hm
    go_wp2_with fail
    by_cases hend : r5.end_ = 0
    · have hea := end_any D20.out.rd
      rw [hend] at hea
      clear hend
      refine hea.mono ?_
      rintro e w21 ⟨rfl, m, hw21⟩
      have D21 := Lib.hid (show DSt w w21 R g E r5 _ from by rw [hw21]; exact D20.out.go (below_drewN (Below.refl _ _) m))
      clear hw21 hea
      have z0 := D21.out.res.cell 0
      have g0 := D21.out.res.frozen 0
      have z1 := D21.out.res.cell 1
      have g1 := D21.out.res.frozen 1
      have z2 := D21.out.res.cell 2
      have g2 := D21.out.res.frozen 2
      have z3 := D21.out.res.cell 3
      have g3 := D21.out.res.frozen 3
      have z4 := D21.out.res.cell 4
      have g4 := D21.out.res.frozen 4
      have z5 := D21.out.res.cell 5
      have g5 := D21.out.res.frozen 5
      simp at z0 z1 z2 z3 z4 z5
      have KR3 := Lib.hid (D21.out.res.put6 (.int .i64 0) (.int .i64 0) (.int .i64 0) (.string ⟨#[]⟩) (.slice none 0 0) (.bool false))
      have B3 := Lib.hid (D21.out.bel.trans ((keeps_set6 w21 R (.int .i64 0) (.int .i64 0) (.int .i64 0) (.string ⟨#[]⟩) (.slice none 0 0) (.bool false)).below D21.out.bel.size (fun i hi => by rw [hi]; exact D21.out.o1)))
      go_wp2
      unfold set6 at KR3 B3
      have y0 := KR3.out.cell 0
      have y1 := KR3.out.cell 1
      have y2 := KR3.out.cell 2
      have y3 := KR3.out.cell 3
      have y4 := KR3.out.cell 4
      have y5 := KR3.out.cell 5
      simp only [List.getElem?_toArray, List.getElem?_cons_zero, List.getElem?_cons_succ] at y0 y1 y2 y3 y4 y5
      exact bodyPost_ret (v := .tuple #[.agg #[.int .i64 0, .int .i64 0, .int .i64 0, .string ⟨#[]⟩, .slice none 0 0, .bool false], .int .i64 100]) (by simp [results, Tryz.results91, go_sem, y0, y1, y2, y3, y4, y5]) rfl (.inr ⟨HNO.out, rfl, B3.out⟩)
    · have hnz : (r5.end_ != 0) = true := by rw [bne_iff_ne]; exact hend
      clear hend
      refine (end_any D20.out.rd).mono ?_
      rintro e w21 ⟨rfl, m, hw21⟩
      have D21 := Lib.hid (show DSt w w21 R g E r5 _ from by rw [hw21]; exact D20.out.go (below_drewN (Below.refl _ _) m))
      clear hw21
      have z0 := D21.out.res.cell 0
      have g0 := D21.out.res.frozen 0
      have z1 := D21.out.res.cell 1
      have g1 := D21.out.res.frozen 1
      have z2 := D21.out.res.cell 2
      have g2 := D21.out.res.frozen 2
      have z3 := D21.out.res.cell 3
      have g3 := D21.out.res.frozen 3
      have z4 := D21.out.res.cell 4
      have g4 := D21.out.res.frozen 4
      have z5 := D21.out.res.cell 5
      have g5 := D21.out.res.frozen 5
      simp at z0 z1 z2 z3 z4 z5
      have KR3 := Lib.hid (D21.out.res.put6 (.int .i64 0) (.int .i64 0) (.int .i64 0) (.string ⟨#[]⟩) (.slice none 0 0) (.bool false))
      have B3 := Lib.hid (D21.out.bel.trans ((keeps_set6 w21 R (.int .i64 0) (.int .i64 0) (.int .i64 0) (.string ⟨#[]⟩) (.slice none 0 0) (.bool false)).below D21.out.bel.size (fun i hi => by rw [hi]; exact D21.out.o1)))
      go_wp2
      unfold set6 at KR3 B3
      have y0 := KR3.out.cell 0
      have y1 := KR3.out.cell 1
      have y2 := KR3.out.cell 2
      have y3 := KR3.out.cell 3
      have y4 := KR3.out.cell 4
      have y5 := KR3.out.cell 5
      simp only [List.getElem?_toArray, List.getElem?_cons_zero, List.getElem?_cons_succ] at y0 y1 y2 y3 y4 y5
      exact bodyPost_ret (v := .tuple #[.agg #[.int .i64 0, .int .i64 0, .int .i64 0, .string ⟨#[]⟩, .slice none 0 0, .bool false], .int .i64 100]) (by simp [results, Tryz.results91, go_sem, y0, y1, y2, y3, y4, y5]) rfl (.inr ⟨HNO.out, rfl, B3.out⟩)
set_option maxRecDepth 100000 in
set_option maxHeartbeats 6400000 in
theorem decx_any {w : World} {A : Option Addr} {c : Nat} {b : List UInt8} (hr : BReads w w.heap.size A b) (hl : b.length ≤ 140737488355328) (hkk : ¬ (1 ≤ (Rd.take ⟨b, 0, 0⟩ 1).1 ∧ (Rd.take ⟨b, 0, 0⟩ 1).1 ≤ 6)) :
    Calls Tryz.prog 91 #[.slice A b.length c] w (DecPost w b) := by
  have HB := Lib.hid hr
  have BA := Lib.hid ((Below.refl w.heap.size w).alloc (Nat.le_refl _) (.cells #[.int .i64 0, .int .i64 0, .int .i64 0, .string ⟨#[]⟩, .slice none 0 0, .bool false] 105))
  have KR := Lib.hid (Blk.new w 105 #[.int .i64 0, .int .i64 0, .int .i64 0, .string ⟨#[]⟩, .slice none 0 0, .bool false])
  clear hr
  go_enter Tryz.func91, Tryz.ntmps91
  go_wp2_with fail
  obtain ⟨W, hW⟩ : ∃ x, x = w.alloc (.cells #[.int .i64 0, .int .i64 0, .int .i64 0, .string ⟨#[]⟩, .slice none 0 0, .bool false] 105) := ⟨_, rfl⟩
  obtain ⟨R, hR⟩ : ∃ x, x = w.heap.size := ⟨_, rfl⟩
  have hRw : w.heap.size ≤ R := by omega
  rw [← hW, ← hR] at KR
  rw [← hW] at BA
  rw [← hW, ← hR]
  clear hW hR
  refine (open_any (HB.out.below BA.out) (by omega)).mono ?_
  rintro e w1 h
  obtain ⟨g, rfl, hg, hrd, hb⟩ := h.out
  have KR1 := Lib.hid (KR.out.below' hb)
  have hgR : R < g := by have := KR.out.lt; omega
  have B1 := Lib.hid (BA.out.trans (hb.mono BA.out.size))
  have R1 := Lib.hid hrd
  clear h hb hrd KR BA hg
  go_wp2_with fail
  have hx := rdTake8_any R1.out
  obtain ⟨⟨k, r1⟩, hh⟩ : ∃ x, x = Rd.take ⟨b, 0, 0⟩ 1 := ⟨_, rfl⟩
  have HT0 := Lib.hid hh.symm
  have hk256 : (k : Int) < 256 := by have := Rd.take_lt ⟨b, 0, 0⟩ 1; rw [← hh] at this; simp only at this; omega
  rw [← hh] at hx
  rw [← hh] at hkk
  simp only at hkk
  clear hh
  refine hx.mono ?_
  rintro e w2 ⟨ha, hr, hk⟩
  obtain rfl : e = .returned (.int .u8 k) := ha
  have B2 := Lib.hid (B1.out.trans (hk.below B1.out.size (fun i hi => by omega)))
  have KR2 := Lib.hid (KR1.out.keeps hk (by omega))
  have RR2 := Lib.hid hr
  clear hx hr hk B1 KR1 R1
  go_wp2_with fail
  have hCE : ∀ kk : Int, DSt w (w2.alloc (.cells #[.int .i64 kk, .int .i64 0, .int .i64 0, .string ⟨#[]⟩, .slice none 0 0, .bool false] 105)) R g w2.heap.size r1 #[.int .i64 kk, .int .i64 0, .int .i64 0, .string ⟨#[]⟩, .slice none 0 0, .bool false] := fun kk =>
    ⟨B2.out.alloc B2.out.size _, KR2.out.alloc _, Blk.new _ _ _, RR2.out.below ((Below.refl _ _).alloc (Nat.le_refl _) _), hRw, hgR, RR2.out.lt⟩
  have HCE := Lib.hid hCE
  clear hCE
  obtain ⟨E, hE⟩ : ∃ x, x = w2.heap.size := ⟨_, rfl⟩
  rw [← hE] at HCE ⊢
  clear hE B2 KR2 RR2
  have D3 := Lib.hid (HCE.out k)
  obtain ⟨w3, hw3⟩ : ∃ x, x = w2.alloc (.cells #[.int .i64 k, .int .i64 0, .int .i64 0, .string ⟨#[]⟩, .slice none 0 0, .bool false] 105) := ⟨_, rfl⟩
  rw [← hw3] at D3 ⊢
  clear hw3 HCE
  have HNO := Lib.hid (dec_x HT0.out hkk)
  have HMX := Lib.hid (may_x (k := (k : Int)) (s := 0) (n := 0) (key := ⟨#[]⟩) (v := []) (d := false) (by omega))
  have HF := Lib.hid (show fieldsF (k : Int) = 0 from by unfold fieldsF; rw [if_neg (by omega), if_neg (by omega), if_neg (by omega), if_neg (by omega)])
  clear hkk
  refine (fields_any (k : Int)).mono ?_
  rintro e w3' ⟨rfl, rfl⟩
  rw [HF.out]
  have b1 : bits .and .i64 0 1 = 0 := by decide
  have b2 : bits .and .i64 0 2 = 0 := by decide
  have b4 : bits .and .i64 0 4 = 0 := by decide
  have b8 : bits .and .i64 0 8 = 0 := by decide
  have b16 : bits .and .i64 0 16 = 0 := by decide
  have q0 := D3.out.ent.cell 0
  have q1 := D3.out.ent.cell 1
  have q2 := D3.out.ent.cell 2
  have q3 := D3.out.ent.cell 3
  have q4 := D3.out.ent.cell 4
  have q5 := D3.out.ent.cell 5
  simp at q0 q1 q2 q3 q4 q5
  go_wp2_with fail
  clear q0 q1 q2 q3 q4 q5
  refine (encode_any (A := none) (c := 0) ⟨k, 0, 0, ⟨#[]⟩, [], false⟩ (show BReads _ _ none [] from Reads.none_) (by show (0 : Nat) ≤ _; omega) (by show (0 : Nat) ≤ _; omega)).mono ?_
  rintro e w20 h
  rcases h with ⟨hm, _⟩ | ⟨hm, rfl, hb⟩
  · exact absurd hm HMX.out
  · have D20 := Lib.hid (D3.out.go hb)
    clear hb hm
    go_wp2_with fail
    by_cases hend : r1.end_ = 0
    · have hea := end_any D20.out.rd
      rw [hend] at hea
      clear hend
      refine hea.mono ?_
      rintro e w21 ⟨rfl, m, hw21⟩
      have D21 := Lib.hid (show DSt w w21 R g E r1 _ from by rw [hw21]; exact D20.out.go (below_drewN (Below.refl _ _) m))
      clear hw21 hea
      have z0 := D21.out.res.cell 0
      have g0 := D21.out.res.frozen 0
      have z1 := D21.out.res.cell 1
      have g1 := D21.out.res.frozen 1
      have z2 := D21.out.res.cell 2
      have g2 := D21.out.res.frozen 2
      have z3 := D21.out.res.cell 3
      have g3 := D21.out.res.frozen 3
      have z4 := D21.out.res.cell 4
      have g4 := D21.out.res.frozen 4
      have z5 := D21.out.res.cell 5
      have g5 := D21.out.res.frozen 5
      simp at z0 z1 z2 z3 z4 z5
      have KR3 := Lib.hid (D21.out.res.put6 (.int .i64 0) (.int .i64 0) (.int .i64 0) (.string ⟨#[]⟩) (.slice none 0 0) (.bool false))
      have B3 := Lib.hid (D21.out.bel.trans ((keeps_set6 w21 R (.int .i64 0) (.int .i64 0) (.int .i64 0) (.string ⟨#[]⟩) (.slice none 0 0) (.bool false)).below D21.out.bel.size (fun i hi => by rw [hi]; exact D21.out.o1)))
      go_wp2
      unfold set6 at KR3 B3
      have y0 := KR3.out.cell 0
      have y1 := KR3.out.cell 1
      have y2 := KR3.out.cell 2
      have y3 := KR3.out.cell 3
      have y4 := KR3.out.cell 4
      have y5 := KR3.out.cell 5
      simp only [List.getElem?_toArray, List.getElem?_cons_zero, List.getElem?_cons_succ] at y0 y1 y2 y3 y4 y5
      exact bodyPost_ret (v := .tuple #[.agg #[.int .i64 0, .int .i64 0, .int .i64 0, .string ⟨#[]⟩, .slice none 0 0, .bool false], .int .i64 100]) (by simp [results, Tryz.results91, go_sem, y0, y1, y2, y3, y4, y5]) rfl (.inr ⟨HNO.out, rfl, B3.out⟩)
    · have hnz : (r1.end_ != 0) = true := by rw [bne_iff_ne]; exact hend
      clear hend
      refine (end_any D20.out.rd).mono ?_
      rintro e w21 ⟨rfl, m, hw21⟩
      have D21 := Lib.hid (show DSt w w21 R g E r1 _ from by rw [hw21]; exact D20.out.go (below_drewN (Below.refl _ _) m))
      clear hw21
      have z0 := D21.out.res.cell 0
      have g0 := D21.out.res.frozen 0
      have z1 := D21.out.res.cell 1
      have g1 := D21.out.res.frozen 1
      have z2 := D21.out.res.cell 2
      have g2 := D21.out.res.frozen 2
      have z3 := D21.out.res.cell 3
      have g3 := D21.out.res.frozen 3
      have z4 := D21.out.res.cell 4
      have g4 := D21.out.res.frozen 4
      have z5 := D21.out.res.cell 5
      have g5 := D21.out.res.frozen 5
      simp at z0 z1 z2 z3 z4 z5
      have KR3 := Lib.hid (D21.out.res.put6 (.int .i64 0) (.int .i64 0) (.int .i64 0) (.string ⟨#[]⟩) (.slice none 0 0) (.bool false))
      have B3 := Lib.hid (D21.out.bel.trans ((keeps_set6 w21 R (.int .i64 0) (.int .i64 0) (.int .i64 0) (.string ⟨#[]⟩) (.slice none 0 0) (.bool false)).below D21.out.bel.size (fun i hi => by rw [hi]; exact D21.out.o1)))
      go_wp2
      unfold set6 at KR3 B3
      have y0 := KR3.out.cell 0
      have y1 := KR3.out.cell 1
      have y2 := KR3.out.cell 2
      have y3 := KR3.out.cell 3
      have y4 := KR3.out.cell 4
      have y5 := KR3.out.cell 5
      simp only [List.getElem?_toArray, List.getElem?_cons_zero, List.getElem?_cons_succ] at y0 y1 y2 y3 y4 y5
      exact bodyPost_ret (v := .tuple #[.agg #[.int .i64 0, .int .i64 0, .int .i64 0, .string ⟨#[]⟩, .slice none 0 0, .bool false], .int .i64 100]) (by simp [results, Tryz.results91, go_sem, y0, y1, y2, y3, y4, y5]) rfl (.inr ⟨HNO.out, rfl, B3.out⟩)
theorem decode_any {w : World} {A : Option Addr} {c : Nat} {b : List UInt8} (hr : BReads w w.heap.size A b) (hl : b.length ≤ 140737488355328) :
    Calls Tryz.prog 91 #[.slice A b.length c] w (DecPost w b) := by
  by_cases h1 : (Rd.take ⟨b, 0, 0⟩ 1).1 = 1
  · exact dec1_any hr hl h1
  by_cases h2 : (Rd.take ⟨b, 0, 0⟩ 1).1 = 2
  · exact dec2_any hr hl h2
  by_cases h3 : (Rd.take ⟨b, 0, 0⟩ 1).1 = 3
  · exact dec3_any hr hl h3
  by_cases h4 : (Rd.take ⟨b, 0, 0⟩ 1).1 = 4
  · exact dec4_any hr hl h4
  by_cases h5 : (Rd.take ⟨b, 0, 0⟩ 1).1 = 5
  · exact dec5_any hr hl h5
  by_cases h6 : (Rd.take ⟨b, 0, 0⟩ 1).1 = 6
  · exact dec6_any hr hl h6
  · exact decx_any hr hl (by omega)
end Go.Proofs.YtmnpchncmbnddaaGreat
