/- Contracts and plain laws that this claim leans on, laid together: Ent11. -/
import Derived.Test.YtnnladfndmdapaaG13
import Derived.Test.YtnnladfndmdapaaG06
import Derived.Deep.Cut
set_option linter.all false
set_option linter.unusedVariables false
set_option linter.unusedSimpArgs false
set_option linter.unnecessarySimpa false
/- Decode of the reference, by contract (printed by a program of this claim's own). -/
namespace Go.Proofs.Ytnnladfndmdapaa
open Go.RowKit

/-- The answer and the entry in memory while bytes are read. -/
structure RSt (w0 w : World) (R E : Nat) (cs : Array Value) : Prop where
  bel : Below w0.heap.size w0 w
  res : Blk w R 25 #[.int .i64 0, .int .i64 0, .int .i64 0, .string ⟨#[]⟩, .slice none 0 0, .bool false]
  ent : Blk w E 25 cs
  o1 : w0.heap.size ≤ R
  o2 : R < E
section
variable {w0 w w' : World} {R E : Nat} {cs : Array Value}
theorem RSt.set (h : RSt w0 w R E cs) (i : Nat) (u : Value) : RSt w0 (w.setCell ⟨E, i, none⟩ u) R E (cs.setIfInBounds i u) :=
  ⟨h.bel.setCell (by show w0.heap.size ≤ E; have := h.o1; have := h.o2; omega) _, h.res.far (p := ⟨E, i, none⟩) (by have := h.o2; show ¬ R = E; omega) _, h.ent.set_ i u, h.o1, h.o2⟩
theorem RSt.go (h : RSt w0 w R E cs) (hb : Below w.heap.size w w') : RSt w0 w' R E cs :=
  ⟨h.bel.trans (hb.mono h.bel.size), h.res.below' hb, h.ent.below' hb, h.o1, h.o2⟩
end
/-- The bytes that a reading answered, while an entry's cells are written. -/
theorem BOwns.setR {w0 w : World} {R E base : Nat} {cs : Array Value} {v : Value} {l : List UInt8} (h : RSt w0 w R E cs) (ho : BOwns w base v l) (i : Nat) (u : Value) : BOwns (w.setCell ⟨E, i, none⟩ u) base v l :=
  ho.farBlk h.ent (by decide) ((Keeps.refl (fun k => k = E) w).setCell (p := ⟨E, i, none⟩) (.inl rfl) u)
set_option maxRecDepth 100000 in
set_option maxHeartbeats 6400000 in
theorem rdec1_any {w : World} {A : Option Addr} {c : Nat} {b r : List UInt8} (hr : BReads w w.heap.size A b) (hl : b.length ≤ 140737488355328) (hc : b.length ≤ c) (hb0 : b = 1 :: r) :
    Calls Try.prog 23 #[.slice A b.length c] w (DecPost w b) := by
  have HB := Lib.hid hr
  have hcell := hr.at_ (k := 0) (by rw [hb0]; simp)
  obtain ⟨bb, off, hA, hbb, hcell⟩ := hcell
  rw [show b[0]'(by rw [hb0]; simp) = 1 from by subst hb0; rfl, Nat.add_zero] at hcell
  have hbl0 : (0 : Int) < (b.length : Int) := by rw [hb0]; simp only [List.length_cons]; omega
  have hbl1 : ((b.length : Int) == 0) = false := by rw [beq_eq_false_iff_ne]; omega
  have HB0 := Lib.hid hb0
  rw [show (((1 : UInt8)).toNat : Int) = 1 from rfl] at hcell
  subst hA
  clear hr hb0
  go_enter Try.func23, Try.ntmps23
  go_wp2_with fail
  have D3 := Lib.hid (show RSt w ((w.alloc (.cells #[.int .i64 0, .int .i64 0, .int .i64 0, .string ⟨#[]⟩, .slice none 0 0, .bool false] 25)).alloc (.cells #[.int .i64 1, .int .i64 0, .int .i64 0, .string ⟨#[]⟩, .slice none 0 0, .bool false] 25)) w.heap.size (w.heap.size + 1) #[.int .i64 1, .int .i64 0, .int .i64 0, .string ⟨#[]⟩, .slice none 0 0, .bool false] from
    ⟨((Below.refl w.heap.size w).alloc (Nat.le_refl _) _).alloc (by simp) _, (Blk.new w _ _).alloc _, by have := Blk.new (w.alloc (.cells #[.int .i64 0, .int .i64 0, .int .i64 0, .string ⟨#[]⟩, .slice none 0 0, .bool false] 25)) 25 #[.int .i64 1, .int .i64 0, .int .i64 0, .string ⟨#[]⟩, .slice none 0 0, .bool false]; simpa using this, Nat.le_refl _, by omega⟩)
  obtain ⟨X3, hX3⟩ : ∃ x, x = (w.alloc (.cells #[.int .i64 0, .int .i64 0, .int .i64 0, .string ⟨#[]⟩, .slice none 0 0, .bool false] 25)).alloc (.cells #[.int .i64 1, .int .i64 0, .int .i64 0, .string ⟨#[]⟩, .slice none 0 0, .bool false] 25) := ⟨_, rfl⟩
  rw [← hX3] at D3 ⊢
  obtain ⟨R, hR⟩ : ∃ x, x = w.heap.size := ⟨_, rfl⟩
  obtain ⟨E, hE⟩ : ∃ x, x = w.heap.size + 1 := ⟨_, rfl⟩
  rw [← hE, ← hR] at D3 ⊢
  clear hX3 hR hE hcell hbb
  have q0 := D3.out.ent.cell 0
  have f0 := D3.out.ent.frozen 0
  have q1 := D3.out.ent.cell 1
  have f1 := D3.out.ent.frozen 1
  have q2 := D3.out.ent.cell 2
  have f2 := D3.out.ent.frozen 2
  have q3 := D3.out.ent.cell 3
  have f3 := D3.out.ent.frozen 3
  have q4 := D3.out.ent.cell 4
  have f4 := D3.out.ent.frozen 4
  have q5 := D3.out.ent.cell 5
  have f5 := D3.out.ent.frozen 5
  simp at q0 q1 q2 q3 q4 q5
  refine (keyed_any 1).mono ?_
  rintro e w3' ⟨rfl, rfl⟩
  rw [show keyedF 1 = true from rfl]
  go_wp2_with fail
  have hx := rrow_any (c := c) ((HB.out.below D3.out.bel).more D3.out.bel.size) hl hc 1 (by omega) (by omega) 255 (by omega) (by omega)
  have hbd := rowA_bd (most := 255) (b := b) (t := 1) (by omega)
  have hpl := rowA_len (most := 255) (b := b) (t := 1)
  obtain ⟨⟨p1, t1⟩, hh⟩ : ∃ x, x = rowA 255 b 1 := ⟨_, rfl⟩
  have Ht1 := Lib.hid hh.symm
  rw [← hh] at hx hbd hpl
  simp only at hbd hpl
  obtain ⟨t1a, t1b⟩ := hbd
  have HLp1 := Lib.hid hpl
  clear hh hpl
  refine hx.mono ?_
  rintro e w4 ⟨A4, c4, rfl, ho, hb⟩
  simp only at ho ⊢
  have k1 := conv_text (BOwns.reads ho) c4
  obtain ⟨key, hkey⟩ : ∃ s : ByteArray, s = ⟨p1.toArray⟩ := ⟨_, rfl⟩
  rw [← hkey] at k1
  have HKEY := Lib.hid hkey
  obtain ⟨pn, hpn⟩ : ∃ n, n = p1.length := ⟨_, rfl⟩
  rw [← hpn] at k1 ⊢
  clear hkey hpn
  have D4' := Lib.hid (D3.out.go hb)
  clear hx ho hb D3
  have D4 := Lib.hid (show RSt w (w4.setCell ⟨E, 3, none⟩ (.string key)) R E #[.int .i64 1, .int .i64 0, .int .i64 0, .string key, .slice none 0 0, .bool false] from by simpa using D4'.out.set 3 (.string key))
  clear q0 q1 q2 q3 q4 q5 f0 f1 f2 f3 f4 f5
  have q3 := D4'.out.ent.cell 3
  have f3 := D4'.out.ent.frozen 3
  have q0 := D4'.out.ent.cell 0
  simp at q0 q3
  obtain ⟨X4, hX4⟩ : ∃ x, x = w4.setCell ⟨E, 3, none⟩ (.string key) := ⟨_, rfl⟩
  rw [← hX4] at D4
  have hE4 := Lib.hid hX4
  clear hX4 D4'
  go_wp2_with fail
  rw [← hE4.out]
  clear hE4
  clear q0 q3 f3
  clear k1
  have q0 := D4.out.ent.cell 0
  have f0 := D4.out.ent.frozen 0
  have q1 := D4.out.ent.cell 1
  have f1 := D4.out.ent.frozen 1
  have q2 := D4.out.ent.cell 2
  have f2 := D4.out.ent.frozen 2
  have q3 := D4.out.ent.cell 3
  have f3 := D4.out.ent.frozen 3
  have q4 := D4.out.ent.cell 4
  have f4 := D4.out.ent.frozen 4
  have q5 := D4.out.ent.cell 5
  have f5 := D4.out.ent.frozen 5
  simp at q0 q1 q2 q3 q4 q5
  refine (stamped_any 1).mono ?_
  rintro e w3' ⟨rfl, rfl⟩
  rw [show stampedF 1 = false from rfl]
  go_wp2_with fail
  refine (counted_any 1).mono ?_
  rintro e w3' ⟨rfl, rfl⟩
  rw [show countedF 1 = false from rfl]
  go_wp2_with fail
  refine (valued_any 1).mono ?_
  rintro e w3' ⟨rfl, rfl⟩
  rw [show valuedF 1 = true from rfl]
  go_wp2_with fail
  have hx := rrow_any (c := c) ((HB.out.below D4.out.bel).more D4.out.bel.size) hl hc t1 (by omega) (by omega) 4096 (by omega) (by omega)
  have hbd := rowA_bd (most := 4096) (b := b) (t := t1) (by omega)
  have hpl := rowA_len (most := 4096) (b := b) (t := t1)
  obtain ⟨⟨p2, t4⟩, hh⟩ : ∃ x, x = rowA 4096 b t1 := ⟨_, rfl⟩
  have Ht4 := Lib.hid hh.symm
  rw [← hh] at hx hbd hpl
  simp only at hbd hpl
  obtain ⟨t4a, t4b⟩ := hbd
  have HLp2 := Lib.hid hpl
  clear hh hpl
  refine hx.mono ?_
  rintro e w5 ⟨A5, c5, rfl, ho, hb⟩
  simp only at ho ⊢
  have D5' := Lib.hid (D4.out.go hb)
  have OV := Lib.hid (BOwns.setR D5'.out (owns_less ho D4.out.bel.size) 4 (.slice A5 p2.length c5))
  clear hx ho hb D4
  have D5 := Lib.hid (show RSt w (w5.setCell ⟨E, 4, none⟩ (.slice A5 p2.length c5)) R E #[.int .i64 1, .int .i64 0, .int .i64 0, .string key, .slice A5 p2.length c5, .bool false] from by simpa using D5'.out.set 4 (.slice A5 p2.length c5))
  clear q0 q1 q2 q3 q4 q5 f0 f1 f2 f3 f4 f5
  have q4 := D5'.out.ent.cell 4
  have f4 := D5'.out.ent.frozen 4
  have q0 := D5'.out.ent.cell 0
  simp at q0 q4
  obtain ⟨X5, hX5⟩ : ∃ x, x = w5.setCell ⟨E, 4, none⟩ (.slice A5 p2.length c5) := ⟨_, rfl⟩
  rw [← hX5] at D5 OV
  have hE5 := Lib.hid hX5
  clear hX5 D5'
  go_upto_region 21 with fail
  rw [← hE5.out]
  clear hE5
  clear q0 q4 f4
  have q0 := D5.out.ent.cell 0
  have f0 := D5.out.ent.frozen 0
  have q1 := D5.out.ent.cell 1
  have f1 := D5.out.ent.frozen 1
  have q2 := D5.out.ent.cell 2
  have f2 := D5.out.ent.frozen 2
  have q3 := D5.out.ent.cell 3
  have f3 := D5.out.ent.frozen 3
  have q4 := D5.out.ent.cell 4
  have f4 := D5.out.ent.frozen 4
  have q5 := D5.out.ent.cell 5
  have f5 := D5.out.ent.frozen 5
  simp at q0 q1 q2 q3 q4 q5
  have HTL := Lib.hid (show RTells b ⟨1, 0, 0, key, p2, false⟩ t4 from by have h := rdec_1 HB0.out Ht1.out Ht4.out; rw [← HKEY.out] at h; exact h)
  have HKS := Lib.hid (show key.size ≤ b.length from by rw [HKEY.out]; show p1.toArray.size ≤ _; have := HLp1.out; simpa using this)
  by_cases hte : t4 = (b.length : Int)
  · have hnb : ((t4 : Int) != (b.length : Int)) = false := by rw [bne_eq_false_iff_eq]; exact hte
    have HTE := Lib.hid hte
    clear hte
    go_wp2_with fail
    refine (rcheck_any (A := A5) (c := c5) ⟨1, 0, 0, key, p2, false⟩ (by show key.size ≤ _; have := HKS.out; omega) (by show p2.length ≤ _; have := HLp2.out; omega)).mono ?_
    rintro e w20 ⟨rfl, hb⟩
    have D20 := Lib.hid (D5.out.go hb)
    have OV20 := Lib.hid (BOwns.below OV.out hb)
    by_cases hm : En.may ⟨1, 0, 0, key, p2, false⟩
    · rw [En.chk_ok hm]
      have HM := Lib.hid hm
      clear hb hm D5 q0 q1 q2 q3 q4 q5 f0 f1 f2 f3 f4 f5
      have q0 := D20.out.ent.cell 0
      have q1 := D20.out.ent.cell 1
      have q2 := D20.out.ent.cell 2
      have q3 := D20.out.ent.cell 3
      have q4 := D20.out.ent.cell 4
      have q5 := D20.out.ent.cell 5
      have z0 := D20.out.res.cell 0
      have g0 := D20.out.res.frozen 0
      have z1 := D20.out.res.cell 1
      have g1 := D20.out.res.frozen 1
      have z2 := D20.out.res.cell 2
      have g2 := D20.out.res.frozen 2
      have z3 := D20.out.res.cell 3
      have g3 := D20.out.res.frozen 3
      have z4 := D20.out.res.cell 4
      have g4 := D20.out.res.frozen 4
      have z5 := D20.out.res.cell 5
      have g5 := D20.out.res.frozen 5
      simp at q0 q1 q2 q3 q4 q5 z0 z1 z2 z3 z4 z5
      have KR3 := Lib.hid (D20.out.res.put6 (.int .i64 1) (.int .i64 0) (.int .i64 0) (.string key) (.slice A5 p2.length c5) (.bool false))
      have B3 := Lib.hid (D20.out.bel.trans ((keeps_set6 w20 R (.int .i64 1) (.int .i64 0) (.int .i64 0) (.string key) (.slice A5 p2.length c5) (.bool false)).below D20.out.bel.size (fun i hi => by rw [hi]; exact D20.out.o1)))
      have OV3 := Lib.hid (OV20.out.farBlk D20.out.res (by decide) (keeps_set6 w20 R (.int .i64 1) (.int .i64 0) (.int .i64 0) (.string key) (.slice A5 p2.length c5) (.bool false)))
      go_wp2
      unfold set6 at KR3 B3 OV3
      have y0 := KR3.out.cell 0
      have y1 := KR3.out.cell 1
      have y2 := KR3.out.cell 2
      have y3 := KR3.out.cell 3
      have y4 := KR3.out.cell 4
      have y5 := KR3.out.cell 5
      simp only [List.getElem?_toArray, List.getElem?_cons_zero, List.getElem?_cons_succ] at y0 y1 y2 y3 y4 y5
      exact bodyPost_ret (v := .tuple #[.agg #[.int .i64 1, .int .i64 0, .int .i64 0, .string key, .slice A5 p2.length c5, .bool false], .int .i64 0]) (by simp [results, Try.results23, go_sem, y0, y1, y2, y3, y4, y5]) rfl (.inl ⟨⟨1, 0, 0, key, p2, false⟩, HM.out, HTL.out.2 HM.out HTE.out, A5, c5, rfl, OV3.out, B3.out⟩)
    · rw [En.chk_no hm]
      have HNO := Lib.hid (HTL.out.no (fun h => hm h.1))
      clear hb hm q0 q1 q2 q3 q4 q5 f0 f1 f2 f3 f4 f5
      have z0 := D20.out.res.cell 0
      have g0 := D20.out.res.frozen 0
      have z1 := D20.out.res.cell 1
      have g1 := D20.out.res.frozen 1
      have z2 := D20.out.res.cell 2
      have g2 := D20.out.res.frozen 2
      have z3 := D20.out.res.cell 3
      have g3 := D20.out.res.frozen 3
      have z4 := D20.out.res.cell 4
      have g4 := D20.out.res.frozen 4
      have z5 := D20.out.res.cell 5
      have g5 := D20.out.res.frozen 5
      simp at z0 z1 z2 z3 z4 z5
      have KR3 := Lib.hid (D20.out.res.put6 (.int .i64 0) (.int .i64 0) (.int .i64 0) (.string ⟨#[]⟩) (.slice none 0 0) (.bool false))
      have B3 := Lib.hid (D20.out.bel.trans ((keeps_set6 w20 R (.int .i64 0) (.int .i64 0) (.int .i64 0) (.string ⟨#[]⟩) (.slice none 0 0) (.bool false)).below D20.out.bel.size (fun i hi => by rw [hi]; exact D20.out.o1)))
      go_wp2
      unfold set6 at KR3 B3
      have y0 := KR3.out.cell 0
      have y1 := KR3.out.cell 1
      have y2 := KR3.out.cell 2
      have y3 := KR3.out.cell 3
      have y4 := KR3.out.cell 4
      have y5 := KR3.out.cell 5
      simp only [List.getElem?_toArray, List.getElem?_cons_zero, List.getElem?_cons_succ] at y0 y1 y2 y3 y4 y5
      exact bodyPost_ret (v := .tuple #[.agg #[.int .i64 0, .int .i64 0, .int .i64 0, .string ⟨#[]⟩, .slice none 0 0, .bool false], .int .i64 100]) (by simp [results, Try.results23, go_sem, y0, y1, y2, y3, y4, y5]) rfl (.inr ⟨HNO.out, rfl, B3.out⟩)
  · have hnb : ((t4 : Int) != (b.length : Int)) = true := by rw [bne_iff_ne]; exact hte
    have HNO := Lib.hid (HTL.out.no (fun h => hte h.2))
    clear hte q0 q1 q2 q3 q4 q5 f0 f1 f2 f3 f4 f5
    have z0 := D5.out.res.cell 0
    have g0 := D5.out.res.frozen 0
    have z1 := D5.out.res.cell 1
    have g1 := D5.out.res.frozen 1
    have z2 := D5.out.res.cell 2
    have g2 := D5.out.res.frozen 2
    have z3 := D5.out.res.cell 3
    have g3 := D5.out.res.frozen 3
    have z4 := D5.out.res.cell 4
    have g4 := D5.out.res.frozen 4
    have z5 := D5.out.res.cell 5
    have g5 := D5.out.res.frozen 5
    simp at z0 z1 z2 z3 z4 z5
    have KR3 := Lib.hid (D5.out.res.put6 (.int .i64 0) (.int .i64 0) (.int .i64 0) (.string ⟨#[]⟩) (.slice none 0 0) (.bool false))
    have B3 := Lib.hid (D5.out.bel.trans ((keeps_set6 X5 R (.int .i64 0) (.int .i64 0) (.int .i64 0) (.string ⟨#[]⟩) (.slice none 0 0) (.bool false)).below D5.out.bel.size (fun i hi => by rw [hi]; exact D5.out.o1)))
    go_wp2
    unfold set6 at KR3 B3
    have y0 := KR3.out.cell 0
    have y1 := KR3.out.cell 1
    have y2 := KR3.out.cell 2
    have y3 := KR3.out.cell 3
    have y4 := KR3.out.cell 4
    have y5 := KR3.out.cell 5
    simp only [List.getElem?_toArray, List.getElem?_cons_zero, List.getElem?_cons_succ] at y0 y1 y2 y3 y4 y5
    exact bodyPost_ret (v := .tuple #[.agg #[.int .i64 0, .int .i64 0, .int .i64 0, .string ⟨#[]⟩, .slice none 0 0, .bool false], .int .i64 100]) (by simp [results, Try.results23, go_sem, y0, y1, y2, y3, y4, y5]) rfl (.inr ⟨HNO.out, rfl, B3.out⟩)
set_option maxRecDepth 100000 in
set_option maxHeartbeats 6400000 in
theorem rdec2_any {w : World} {A : Option Addr} {c : Nat} {b r : List UInt8} (hr : BReads w w.heap.size A b) (hl : b.length ≤ 140737488355328) (hc : b.length ≤ c) (hb0 : b = 2 :: r) :
    Calls Try.prog 23 #[.slice A b.length c] w (DecPost w b) := by
  have HB := Lib.hid hr
  have hcell := hr.at_ (k := 0) (by rw [hb0]; simp)
  obtain ⟨bb, off, hA, hbb, hcell⟩ := hcell
  rw [show b[0]'(by rw [hb0]; simp) = 2 from by subst hb0; rfl, Nat.add_zero] at hcell
  have hbl0 : (0 : Int) < (b.length : Int) := by rw [hb0]; simp only [List.length_cons]; omega
  have hbl1 : ((b.length : Int) == 0) = false := by rw [beq_eq_false_iff_ne]; omega
  have HB0 := Lib.hid hb0
  rw [show (((2 : UInt8)).toNat : Int) = 2 from rfl] at hcell
  subst hA
  clear hr hb0
  go_enter Try.func23, Try.ntmps23
  go_wp2_with fail
  have D3 := Lib.hid (show RSt w ((w.alloc (.cells #[.int .i64 0, .int .i64 0, .int .i64 0, .string ⟨#[]⟩, .slice none 0 0, .bool false] 25)).alloc (.cells #[.int .i64 2, .int .i64 0, .int .i64 0, .string ⟨#[]⟩, .slice none 0 0, .bool false] 25)) w.heap.size (w.heap.size + 1) #[.int .i64 2, .int .i64 0, .int .i64 0, .string ⟨#[]⟩, .slice none 0 0, .bool false] from
    ⟨((Below.refl w.heap.size w).alloc (Nat.le_refl _) _).alloc (by simp) _, (Blk.new w _ _).alloc _, by have := Blk.new (w.alloc (.cells #[.int .i64 0, .int .i64 0, .int .i64 0, .string ⟨#[]⟩, .slice none 0 0, .bool false] 25)) 25 #[.int .i64 2, .int .i64 0, .int .i64 0, .string ⟨#[]⟩, .slice none 0 0, .bool false]; simpa using this, Nat.le_refl _, by omega⟩)
  obtain ⟨X3, hX3⟩ : ∃ x, x = (w.alloc (.cells #[.int .i64 0, .int .i64 0, .int .i64 0, .string ⟨#[]⟩, .slice none 0 0, .bool false] 25)).alloc (.cells #[.int .i64 2, .int .i64 0, .int .i64 0, .string ⟨#[]⟩, .slice none 0 0, .bool false] 25) := ⟨_, rfl⟩
  rw [← hX3] at D3 ⊢
  obtain ⟨R, hR⟩ : ∃ x, x = w.heap.size := ⟨_, rfl⟩
  obtain ⟨E, hE⟩ : ∃ x, x = w.heap.size + 1 := ⟨_, rfl⟩
  rw [← hE, ← hR] at D3 ⊢
  clear hX3 hR hE hcell hbb
  have q0 := D3.out.ent.cell 0
  have f0 := D3.out.ent.frozen 0
  have q1 := D3.out.ent.cell 1
  have f1 := D3.out.ent.frozen 1
  have q2 := D3.out.ent.cell 2
  have f2 := D3.out.ent.frozen 2
  have q3 := D3.out.ent.cell 3
  have f3 := D3.out.ent.frozen 3
  have q4 := D3.out.ent.cell 4
  have f4 := D3.out.ent.frozen 4
  have q5 := D3.out.ent.cell 5
  have f5 := D3.out.ent.frozen 5
  simp at q0 q1 q2 q3 q4 q5
  refine (keyed_any 2).mono ?_
  rintro e w3' ⟨rfl, rfl⟩
  rw [show keyedF 2 = true from rfl]
  go_wp2_with fail
  have hx := rrow_any (c := c) ((HB.out.below D3.out.bel).more D3.out.bel.size) hl hc 1 (by omega) (by omega) 255 (by omega) (by omega)
  have hbd := rowA_bd (most := 255) (b := b) (t := 1) (by omega)
  have hpl := rowA_len (most := 255) (b := b) (t := 1)
  obtain ⟨⟨p1, t1⟩, hh⟩ : ∃ x, x = rowA 255 b 1 := ⟨_, rfl⟩
  have Ht1 := Lib.hid hh.symm
  rw [← hh] at hx hbd hpl
  simp only at hbd hpl
  obtain ⟨t1a, t1b⟩ := hbd
  have HLp1 := Lib.hid hpl
  clear hh hpl
  refine hx.mono ?_
  rintro e w4 ⟨A4, c4, rfl, ho, hb⟩
  simp only at ho ⊢
  have k1 := conv_text (BOwns.reads ho) c4
  obtain ⟨key, hkey⟩ : ∃ s : ByteArray, s = ⟨p1.toArray⟩ := ⟨_, rfl⟩
  rw [← hkey] at k1
  have HKEY := Lib.hid hkey
  obtain ⟨pn, hpn⟩ : ∃ n, n = p1.length := ⟨_, rfl⟩
  rw [← hpn] at k1 ⊢
  clear hkey hpn
  have D4' := Lib.hid (D3.out.go hb)
  clear hx ho hb D3
  have D4 := Lib.hid (show RSt w (w4.setCell ⟨E, 3, none⟩ (.string key)) R E #[.int .i64 2, .int .i64 0, .int .i64 0, .string key, .slice none 0 0, .bool false] from by simpa using D4'.out.set 3 (.string key))
  clear q0 q1 q2 q3 q4 q5 f0 f1 f2 f3 f4 f5
  have q3 := D4'.out.ent.cell 3
  have f3 := D4'.out.ent.frozen 3
  have q0 := D4'.out.ent.cell 0
  simp at q0 q3
  obtain ⟨X4, hX4⟩ : ∃ x, x = w4.setCell ⟨E, 3, none⟩ (.string key) := ⟨_, rfl⟩
  rw [← hX4] at D4
  have hE4 := Lib.hid hX4
  clear hX4 D4'
  go_wp2_with fail
  rw [← hE4.out]
  clear hE4
  clear q0 q3 f3
  clear k1
  have q0 := D4.out.ent.cell 0
  have f0 := D4.out.ent.frozen 0
  have q1 := D4.out.ent.cell 1
  have f1 := D4.out.ent.frozen 1
  have q2 := D4.out.ent.cell 2
  have f2 := D4.out.ent.frozen 2
  have q3 := D4.out.ent.cell 3
  have f3 := D4.out.ent.frozen 3
  have q4 := D4.out.ent.cell 4
  have f4 := D4.out.ent.frozen 4
  have q5 := D4.out.ent.cell 5
  have f5 := D4.out.ent.frozen 5
  simp at q0 q1 q2 q3 q4 q5
  refine (stamped_any 2).mono ?_
  rintro e w3' ⟨rfl, rfl⟩
  rw [show stampedF 2 = false from rfl]
  go_wp2_with fail
  refine (counted_any 2).mono ?_
  rintro e w3' ⟨rfl, rfl⟩
  rw [show countedF 2 = false from rfl]
  go_wp2_with fail
  refine (valued_any 2).mono ?_
  rintro e w3' ⟨rfl, rfl⟩
  rw [show valuedF 2 = false from rfl]
  have HTL := Lib.hid (show RTells b ⟨2, 0, 0, key, [], false⟩ t1 from by have h := rdec_2 HB0.out Ht1.out; rw [← HKEY.out] at h; exact h)
  have HKS := Lib.hid (show key.size ≤ b.length from by rw [HKEY.out]; show p1.toArray.size ≤ _; have := HLp1.out; simpa using this)
  by_cases hte : t1 = (b.length : Int)
  · have hnb : ((t1 : Int) != (b.length : Int)) = false := by rw [bne_eq_false_iff_eq]; exact hte
    have HTE := Lib.hid hte
    clear hte
    go_wp2_with fail
    refine (rcheck_any (A := none) (c := 0) ⟨2, 0, 0, key, [], false⟩ (by show key.size ≤ _; have := HKS.out; omega) (by show (0 : Nat) ≤ _; omega)).mono ?_
    rintro e w20 ⟨rfl, hb⟩
    have D20 := Lib.hid (D4.out.go hb)
    by_cases hm : En.may ⟨2, 0, 0, key, [], false⟩
    · rw [En.chk_ok hm]
      have HM := Lib.hid hm
      clear hb hm D4 q0 q1 q2 q3 q4 q5 f0 f1 f2 f3 f4 f5
      have q0 := D20.out.ent.cell 0
      have q1 := D20.out.ent.cell 1
      have q2 := D20.out.ent.cell 2
      have q3 := D20.out.ent.cell 3
      have q4 := D20.out.ent.cell 4
      have q5 := D20.out.ent.cell 5
      have z0 := D20.out.res.cell 0
      have g0 := D20.out.res.frozen 0
      have z1 := D20.out.res.cell 1
      have g1 := D20.out.res.frozen 1
      have z2 := D20.out.res.cell 2
      have g2 := D20.out.res.frozen 2
      have z3 := D20.out.res.cell 3
      have g3 := D20.out.res.frozen 3
      have z4 := D20.out.res.cell 4
      have g4 := D20.out.res.frozen 4
      have z5 := D20.out.res.cell 5
      have g5 := D20.out.res.frozen 5
      simp at q0 q1 q2 q3 q4 q5 z0 z1 z2 z3 z4 z5
      have KR3 := Lib.hid (D20.out.res.put6 (.int .i64 2) (.int .i64 0) (.int .i64 0) (.string key) (.slice none 0 0) (.bool false))
      have B3 := Lib.hid (D20.out.bel.trans ((keeps_set6 w20 R (.int .i64 2) (.int .i64 0) (.int .i64 0) (.string key) (.slice none 0 0) (.bool false)).below D20.out.bel.size (fun i hi => by rw [hi]; exact D20.out.o1)))
      go_wp2
      unfold set6 at KR3 B3
      have y0 := KR3.out.cell 0
      have y1 := KR3.out.cell 1
      have y2 := KR3.out.cell 2
      have y3 := KR3.out.cell 3
      have y4 := KR3.out.cell 4
      have y5 := KR3.out.cell 5
      simp only [List.getElem?_toArray, List.getElem?_cons_zero, List.getElem?_cons_succ] at y0 y1 y2 y3 y4 y5
      exact bodyPost_ret (v := .tuple #[.agg #[.int .i64 2, .int .i64 0, .int .i64 0, .string key, .slice none 0 0, .bool false], .int .i64 0]) (by simp [results, Try.results23, go_sem, y0, y1, y2, y3, y4, y5]) rfl (.inl ⟨⟨2, 0, 0, key, [], false⟩, HM.out, HTL.out.2 HM.out HTE.out, none, 0, rfl, BOwns.nil _ _, B3.out⟩)
    · rw [En.chk_no hm]
      have HNO := Lib.hid (HTL.out.no (fun h => hm h.1))
      clear hb hm q0 q1 q2 q3 q4 q5 f0 f1 f2 f3 f4 f5
      have z0 := D20.out.res.cell 0
      have g0 := D20.out.res.frozen 0
      have z1 := D20.out.res.cell 1
      have g1 := D20.out.res.frozen 1
      have z2 := D20.out.res.cell 2
      have g2 := D20.out.res.frozen 2
      have z3 := D20.out.res.cell 3
      have g3 := D20.out.res.frozen 3
      have z4 := D20.out.res.cell 4
      have g4 := D20.out.res.frozen 4
      have z5 := D20.out.res.cell 5
      have g5 := D20.out.res.frozen 5
      simp at z0 z1 z2 z3 z4 z5
      have KR3 := Lib.hid (D20.out.res.put6 (.int .i64 0) (.int .i64 0) (.int .i64 0) (.string ⟨#[]⟩) (.slice none 0 0) (.bool false))
      have B3 := Lib.hid (D20.out.bel.trans ((keeps_set6 w20 R (.int .i64 0) (.int .i64 0) (.int .i64 0) (.string ⟨#[]⟩) (.slice none 0 0) (.bool false)).below D20.out.bel.size (fun i hi => by rw [hi]; exact D20.out.o1)))
      go_wp2
      unfold set6 at KR3 B3
      have y0 := KR3.out.cell 0
      have y1 := KR3.out.cell 1
      have y2 := KR3.out.cell 2
      have y3 := KR3.out.cell 3
      have y4 := KR3.out.cell 4
      have y5 := KR3.out.cell 5
      simp only [List.getElem?_toArray, List.getElem?_cons_zero, List.getElem?_cons_succ] at y0 y1 y2 y3 y4 y5
      exact bodyPost_ret (v := .tuple #[.agg #[.int .i64 0, .int .i64 0, .int .i64 0, .string ⟨#[]⟩, .slice none 0 0, .bool false], .int .i64 100]) (by simp [results, Try.results23, go_sem, y0, y1, y2, y3, y4, y5]) rfl (.inr ⟨HNO.out, rfl, B3.out⟩)
  · have hnb : ((t1 : Int) != (b.length : Int)) = true := by rw [bne_iff_ne]; exact hte
    have HNO := Lib.hid (HTL.out.no (fun h => hte h.2))
    clear hte q0 q1 q2 q3 q4 q5 f0 f1 f2 f3 f4 f5
    have z0 := D4.out.res.cell 0
    have g0 := D4.out.res.frozen 0
    have z1 := D4.out.res.cell 1
    have g1 := D4.out.res.frozen 1
    have z2 := D4.out.res.cell 2
    have g2 := D4.out.res.frozen 2
    have z3 := D4.out.res.cell 3
    have g3 := D4.out.res.frozen 3
    have z4 := D4.out.res.cell 4
    have g4 := D4.out.res.frozen 4
    have z5 := D4.out.res.cell 5
    have g5 := D4.out.res.frozen 5
    simp at z0 z1 z2 z3 z4 z5
    have KR3 := Lib.hid (D4.out.res.put6 (.int .i64 0) (.int .i64 0) (.int .i64 0) (.string ⟨#[]⟩) (.slice none 0 0) (.bool false))
    have B3 := Lib.hid (D4.out.bel.trans ((keeps_set6 X4 R (.int .i64 0) (.int .i64 0) (.int .i64 0) (.string ⟨#[]⟩) (.slice none 0 0) (.bool false)).below D4.out.bel.size (fun i hi => by rw [hi]; exact D4.out.o1)))
    go_wp2
    unfold set6 at KR3 B3
    have y0 := KR3.out.cell 0
    have y1 := KR3.out.cell 1
    have y2 := KR3.out.cell 2
    have y3 := KR3.out.cell 3
    have y4 := KR3.out.cell 4
    have y5 := KR3.out.cell 5
    simp only [List.getElem?_toArray, List.getElem?_cons_zero, List.getElem?_cons_succ] at y0 y1 y2 y3 y4 y5
    exact bodyPost_ret (v := .tuple #[.agg #[.int .i64 0, .int .i64 0, .int .i64 0, .string ⟨#[]⟩, .slice none 0 0, .bool false], .int .i64 100]) (by simp [results, Try.results23, go_sem, y0, y1, y2, y3, y4, y5]) rfl (.inr ⟨HNO.out, rfl, B3.out⟩)
set_option maxRecDepth 100000 in
set_option maxHeartbeats 6400000 in
theorem rdecm_any {w : World} {A : Option Addr} {c : Nat} {b r : List UInt8} (hr : BReads w w.heap.size A b) (hl : b.length ≤ 140737488355328) (hc : b.length ≤ c) {x : UInt8} (hb0 : b = x :: r) (hx : x.toNat = 3 ∨ x.toNat = 4 ∨ x.toNat = 6) :
    Calls Try.prog 23 #[.slice A b.length c] w (DecPost w b) := by
  have HB := Lib.hid hr
  have hcell := hr.at_ (k := 0) (by rw [hb0]; simp)
  obtain ⟨bb, off, hA, hbb, hcell⟩ := hcell
  rw [show b[0]'(by rw [hb0]; simp) = x from by subst hb0; rfl, Nat.add_zero] at hcell
  have hbl0 : (0 : Int) < (b.length : Int) := by rw [hb0]; simp only [List.length_cons]; omega
  have hbl1 : ((b.length : Int) == 0) = false := by rw [beq_eq_false_iff_ne]; omega
  have HB0 := Lib.hid hb0
  obtain ⟨kk, hkk⟩ : ∃ kk : Int, kk = (x.toNat : Int) := ⟨_, rfl⟩
  rw [← hkk] at hcell
  have hx8 := x.toNat_lt
  have kk0 : 0 ≤ kk := by omega
  have kk1 : kk ≤ 255 := by omega
  have hkm : kk = 3 ∨ kk = 4 ∨ kk = 6 := by omega
  have kk5 : (kk == 5) = false := by rw [beq_eq_false_iff_ne]; omega
  have HKM := Lib.hid hkm
  have HKX := Lib.hid hx
  clear hkm hx
  have HKK := Lib.hid hkk
  clear hkk
  subst hA
  clear hr hb0
  go_enter Try.func23, Try.ntmps23
  go_wp2_with fail
  have D3 := Lib.hid (show RSt w ((w.alloc (.cells #[.int .i64 0, .int .i64 0, .int .i64 0, .string ⟨#[]⟩, .slice none 0 0, .bool false] 25)).alloc (.cells #[.int .i64 kk, .int .i64 0, .int .i64 0, .string ⟨#[]⟩, .slice none 0 0, .bool false] 25)) w.heap.size (w.heap.size + 1) #[.int .i64 kk, .int .i64 0, .int .i64 0, .string ⟨#[]⟩, .slice none 0 0, .bool false] from
    ⟨((Below.refl w.heap.size w).alloc (Nat.le_refl _) _).alloc (by simp) _, (Blk.new w _ _).alloc _, by have := Blk.new (w.alloc (.cells #[.int .i64 0, .int .i64 0, .int .i64 0, .string ⟨#[]⟩, .slice none 0 0, .bool false] 25)) 25 #[.int .i64 kk, .int .i64 0, .int .i64 0, .string ⟨#[]⟩, .slice none 0 0, .bool false]; simpa using this, Nat.le_refl _, by omega⟩)
  obtain ⟨X3, hX3⟩ : ∃ x, x = (w.alloc (.cells #[.int .i64 0, .int .i64 0, .int .i64 0, .string ⟨#[]⟩, .slice none 0 0, .bool false] 25)).alloc (.cells #[.int .i64 kk, .int .i64 0, .int .i64 0, .string ⟨#[]⟩, .slice none 0 0, .bool false] 25) := ⟨_, rfl⟩
  rw [← hX3] at D3 ⊢
  obtain ⟨R, hR⟩ : ∃ x, x = w.heap.size := ⟨_, rfl⟩
  obtain ⟨E, hE⟩ : ∃ x, x = w.heap.size + 1 := ⟨_, rfl⟩
  rw [← hE, ← hR] at D3 ⊢
  clear hX3 hR hE hcell hbb
  have q0 := D3.out.ent.cell 0
  have f0 := D3.out.ent.frozen 0
  have q1 := D3.out.ent.cell 1
  have f1 := D3.out.ent.frozen 1
  have q2 := D3.out.ent.cell 2
  have f2 := D3.out.ent.frozen 2
  have q3 := D3.out.ent.cell 3
  have f3 := D3.out.ent.frozen 3
  have q4 := D3.out.ent.cell 4
  have f4 := D3.out.ent.frozen 4
  have q5 := D3.out.ent.cell 5
  have f5 := D3.out.ent.frozen 5
  simp at q0 q1 q2 q3 q4 q5
  have hkm := HKM.out
  refine (keyed_any kk).mono ?_
  rintro e w3' ⟨rfl, rfl⟩
  rw [show keyedF kk = false from decide_eq_false (by omega)]
  clear hkm
  go_wp2_with fail
  have hkm := HKM.out
  refine (stamped_any kk).mono ?_
  rintro e w3' ⟨rfl, rfl⟩
  rw [show stampedF kk = true from decide_eq_true (by omega)]
  clear hkm
  go_wp2_with fail
  have hx := rnum_any (c := c) (HB.out.below D3.out.bel) hl 1 (by omega) (by omega) 4611686018427387904 (by omega) (by omega)
  have hbd := numA_bd (most := 4611686018427387904) (b := b) (t := 1) (by omega)
  obtain ⟨⟨s, t2⟩, hh⟩ : ∃ x, x = numA 4611686018427387904 b 1 := ⟨_, rfl⟩
  have Ht2 := Lib.hid hh.symm
  rw [← hh] at hx hbd
  simp only at hbd
  obtain ⟨t2a, t2b, sa, sb⟩ := hbd
  clear hh
  refine hx.mono ?_
  rintro e w4 ⟨rfl, rfl⟩
  simp only
  have D4' := D3
  clear hx D3
  have D4 := Lib.hid (show RSt w (w4.setCell ⟨E, 1, none⟩ (.int .i64 s)) R E #[.int .i64 kk, .int .i64 s, .int .i64 0, .string ⟨#[]⟩, .slice none 0 0, .bool false] from by simpa using D4'.out.set 1 (.int .i64 s))
  clear q0 q1 q2 q3 q4 q5 f0 f1 f2 f3 f4 f5
  have q1 := D4'.out.ent.cell 1
  have f1 := D4'.out.ent.frozen 1
  have q0 := D4'.out.ent.cell 0
  simp at q0 q1
  obtain ⟨X4, hX4⟩ : ∃ x, x = w4.setCell ⟨E, 1, none⟩ (.int .i64 s) := ⟨_, rfl⟩
  rw [← hX4] at D4
  have hE4 := Lib.hid hX4
  clear hX4 D4'
  go_wp2_with fail
  rw [← hE4.out]
  clear hE4
  clear q0 q1 f1
  have q0 := D4.out.ent.cell 0
  have f0 := D4.out.ent.frozen 0
  have q1 := D4.out.ent.cell 1
  have f1 := D4.out.ent.frozen 1
  have q2 := D4.out.ent.cell 2
  have f2 := D4.out.ent.frozen 2
  have q3 := D4.out.ent.cell 3
  have f3 := D4.out.ent.frozen 3
  have q4 := D4.out.ent.cell 4
  have f4 := D4.out.ent.frozen 4
  have q5 := D4.out.ent.cell 5
  have f5 := D4.out.ent.frozen 5
  simp at q0 q1 q2 q3 q4 q5
  have hkm := HKM.out
  refine (counted_any kk).mono ?_
  rintro e w3' ⟨rfl, rfl⟩
  rw [show countedF kk = true from decide_eq_true (by omega)]
  clear hkm
  go_wp2_with fail
  have hx := rnum_any (c := c) (HB.out.below D4.out.bel) hl t2 (by omega) (by omega) 2147483647 (by omega) (by omega)
  have hbd := numA_bd (most := 2147483647) (b := b) (t := t2) (by omega)
  obtain ⟨⟨n, t3⟩, hh⟩ : ∃ x, x = numA 2147483647 b t2 := ⟨_, rfl⟩
  have Ht3 := Lib.hid hh.symm
  rw [← hh] at hx hbd
  simp only at hbd
  obtain ⟨t3a, t3b, na, nb⟩ := hbd
  clear hh
  refine hx.mono ?_
  rintro e w5 ⟨rfl, rfl⟩
  simp only
  have D5' := D4
  clear hx D4
  have D5 := Lib.hid (show RSt w (w5.setCell ⟨E, 2, none⟩ (.int .i64 n)) R E #[.int .i64 kk, .int .i64 s, .int .i64 n, .string ⟨#[]⟩, .slice none 0 0, .bool false] from by simpa using D5'.out.set 2 (.int .i64 n))
  clear q0 q1 q2 q3 q4 q5 f0 f1 f2 f3 f4 f5
  have q2 := D5'.out.ent.cell 2
  have f2 := D5'.out.ent.frozen 2
  have q0 := D5'.out.ent.cell 0
  simp at q0 q2
  obtain ⟨X5, hX5⟩ : ∃ x, x = w5.setCell ⟨E, 2, none⟩ (.int .i64 n) := ⟨_, rfl⟩
  rw [← hX5] at D5
  have hE5 := Lib.hid hX5
  clear hX5 D5'
  go_wp2_with fail
  rw [← hE5.out]
  clear hE5
  clear q0 q2 f2
  have q0 := D5.out.ent.cell 0
  have f0 := D5.out.ent.frozen 0
  have q1 := D5.out.ent.cell 1
  have f1 := D5.out.ent.frozen 1
  have q2 := D5.out.ent.cell 2
  have f2 := D5.out.ent.frozen 2
  have q3 := D5.out.ent.cell 3
  have f3 := D5.out.ent.frozen 3
  have q4 := D5.out.ent.cell 4
  have f4 := D5.out.ent.frozen 4
  have q5 := D5.out.ent.cell 5
  have f5 := D5.out.ent.frozen 5
  simp at q0 q1 q2 q3 q4 q5
  have hkm := HKM.out
  refine (valued_any kk).mono ?_
  rintro e w3' ⟨rfl, rfl⟩
  rw [show valuedF kk = false from decide_eq_false (by omega)]
  clear hkm
  have HTL := Lib.hid (show RTells b ⟨kk, s, n, ⟨#[]⟩, [], false⟩ t3 from by have h := rdec_m HKX.out HB0.out Ht2.out Ht3.out; rw [← HKK.out] at h; exact h)
  by_cases hte : t3 = (b.length : Int)
  · have hnb : ((t3 : Int) != (b.length : Int)) = false := by rw [bne_eq_false_iff_eq]; exact hte
    have HTE := Lib.hid hte
    clear hte
    go_wp2_with fail
    refine (rcheck_any (A := none) (c := 0) ⟨kk, s, n, ⟨#[]⟩, [], false⟩ (by show (0 : Nat) ≤ _; omega) (by show (0 : Nat) ≤ _; omega)).mono ?_
    rintro e w20 ⟨rfl, hb⟩
    have D20 := Lib.hid (D5.out.go hb)
    by_cases hm : En.may ⟨kk, s, n, ⟨#[]⟩, [], false⟩
    · rw [En.chk_ok hm]
      have HM := Lib.hid hm
      clear hb hm D5 q0 q1 q2 q3 q4 q5 f0 f1 f2 f3 f4 f5
      have q0 := D20.out.ent.cell 0
      have q1 := D20.out.ent.cell 1
      have q2 := D20.out.ent.cell 2
      have q3 := D20.out.ent.cell 3
      have q4 := D20.out.ent.cell 4
      have q5 := D20.out.ent.cell 5
      have z0 := D20.out.res.cell 0
      have g0 := D20.out.res.frozen 0
      have z1 := D20.out.res.cell 1
      have g1 := D20.out.res.frozen 1
      have z2 := D20.out.res.cell 2
      have g2 := D20.out.res.frozen 2
      have z3 := D20.out.res.cell 3
      have g3 := D20.out.res.frozen 3
      have z4 := D20.out.res.cell 4
      have g4 := D20.out.res.frozen 4
      have z5 := D20.out.res.cell 5
      have g5 := D20.out.res.frozen 5
      simp at q0 q1 q2 q3 q4 q5 z0 z1 z2 z3 z4 z5
      have KR3 := Lib.hid (D20.out.res.put6 (.int .i64 kk) (.int .i64 s) (.int .i64 n) (.string ⟨#[]⟩) (.slice none 0 0) (.bool false))
      have B3 := Lib.hid (D20.out.bel.trans ((keeps_set6 w20 R (.int .i64 kk) (.int .i64 s) (.int .i64 n) (.string ⟨#[]⟩) (.slice none 0 0) (.bool false)).below D20.out.bel.size (fun i hi => by rw [hi]; exact D20.out.o1)))
      go_wp2
      unfold set6 at KR3 B3
      have y0 := KR3.out.cell 0
      have y1 := KR3.out.cell 1
      have y2 := KR3.out.cell 2
      have y3 := KR3.out.cell 3
      have y4 := KR3.out.cell 4
      have y5 := KR3.out.cell 5
      simp only [List.getElem?_toArray, List.getElem?_cons_zero, List.getElem?_cons_succ] at y0 y1 y2 y3 y4 y5
      exact bodyPost_ret (v := .tuple #[.agg #[.int .i64 kk, .int .i64 s, .int .i64 n, .string ⟨#[]⟩, .slice none 0 0, .bool false], .int .i64 0]) (by simp [results, Try.results23, go_sem, y0, y1, y2, y3, y4, y5]) rfl (.inl ⟨⟨kk, s, n, ⟨#[]⟩, [], false⟩, HM.out, HTL.out.2 HM.out HTE.out, none, 0, rfl, BOwns.nil _ _, B3.out⟩)
    · rw [En.chk_no hm]
      have HNO := Lib.hid (HTL.out.no (fun h => hm h.1))
      clear hb hm q0 q1 q2 q3 q4 q5 f0 f1 f2 f3 f4 f5
      have z0 := D20.out.res.cell 0
      have g0 := D20.out.res.frozen 0
      have z1 := D20.out.res.cell 1
      have g1 := D20.out.res.frozen 1
      have z2 := D20.out.res.cell 2
      have g2 := D20.out.res.frozen 2
      have z3 := D20.out.res.cell 3
      have g3 := D20.out.res.frozen 3
      have z4 := D20.out.res.cell 4
      have g4 := D20.out.res.frozen 4
      have z5 := D20.out.res.cell 5
      have g5 := D20.out.res.frozen 5
      simp at z0 z1 z2 z3 z4 z5
      have KR3 := Lib.hid (D20.out.res.put6 (.int .i64 0) (.int .i64 0) (.int .i64 0) (.string ⟨#[]⟩) (.slice none 0 0) (.bool false))
      have B3 := Lib.hid (D20.out.bel.trans ((keeps_set6 w20 R (.int .i64 0) (.int .i64 0) (.int .i64 0) (.string ⟨#[]⟩) (.slice none 0 0) (.bool false)).below D20.out.bel.size (fun i hi => by rw [hi]; exact D20.out.o1)))
      go_wp2
      unfold set6 at KR3 B3
      have y0 := KR3.out.cell 0
      have y1 := KR3.out.cell 1
      have y2 := KR3.out.cell 2
      have y3 := KR3.out.cell 3
      have y4 := KR3.out.cell 4
      have y5 := KR3.out.cell 5
      simp only [List.getElem?_toArray, List.getElem?_cons_zero, List.getElem?_cons_succ] at y0 y1 y2 y3 y4 y5
      exact bodyPost_ret (v := .tuple #[.agg #[.int .i64 0, .int .i64 0, .int .i64 0, .string ⟨#[]⟩, .slice none 0 0, .bool false], .int .i64 100]) (by simp [results, Try.results23, go_sem, y0, y1, y2, y3, y4, y5]) rfl (.inr ⟨HNO.out, rfl, B3.out⟩)
  · have hnb : ((t3 : Int) != (b.length : Int)) = true := by rw [bne_iff_ne]; exact hte
    have HNO := Lib.hid (HTL.out.no (fun h => hte h.2))
    clear hte q0 q1 q2 q3 q4 q5 f0 f1 f2 f3 f4 f5
    have z0 := D5.out.res.cell 0
    have g0 := D5.out.res.frozen 0
    have z1 := D5.out.res.cell 1
    have g1 := D5.out.res.frozen 1
    have z2 := D5.out.res.cell 2
    have g2 := D5.out.res.frozen 2
    have z3 := D5.out.res.cell 3
    have g3 := D5.out.res.frozen 3
    have z4 := D5.out.res.cell 4
    have g4 := D5.out.res.frozen 4
    have z5 := D5.out.res.cell 5
    have g5 := D5.out.res.frozen 5
    simp at z0 z1 z2 z3 z4 z5
    have KR3 := Lib.hid (D5.out.res.put6 (.int .i64 0) (.int .i64 0) (.int .i64 0) (.string ⟨#[]⟩) (.slice none 0 0) (.bool false))
    have B3 := Lib.hid (D5.out.bel.trans ((keeps_set6 X5 R (.int .i64 0) (.int .i64 0) (.int .i64 0) (.string ⟨#[]⟩) (.slice none 0 0) (.bool false)).below D5.out.bel.size (fun i hi => by rw [hi]; exact D5.out.o1)))
    go_wp2
    unfold set6 at KR3 B3
    have y0 := KR3.out.cell 0
    have y1 := KR3.out.cell 1
    have y2 := KR3.out.cell 2
    have y3 := KR3.out.cell 3
    have y4 := KR3.out.cell 4
    have y5 := KR3.out.cell 5
    simp only [List.getElem?_toArray, List.getElem?_cons_zero, List.getElem?_cons_succ] at y0 y1 y2 y3 y4 y5
    exact bodyPost_ret (v := .tuple #[.agg #[.int .i64 0, .int .i64 0, .int .i64 0, .string ⟨#[]⟩, .slice none 0 0, .bool false], .int .i64 100]) (by simp [results, Try.results23, go_sem, y0, y1, y2, y3, y4, y5]) rfl (.inr ⟨HNO.out, rfl, B3.out⟩)
set_option maxRecDepth 100000 in
set_option maxHeartbeats 6400000 in
theorem rdec5_any {w : World} {A : Option Addr} {c : Nat} {b r : List UInt8} (hr : BReads w w.heap.size A b) (hl : b.length ≤ 140737488355328) (hc : b.length ≤ c) (hb0 : b = 5 :: r) :
    Calls Try.prog 23 #[.slice A b.length c] w (DecPost w b) := by
  have HB := Lib.hid hr
  have hcell := hr.at_ (k := 0) (by rw [hb0]; simp)
  obtain ⟨bb, off, hA, hbb, hcell⟩ := hcell
  rw [show b[0]'(by rw [hb0]; simp) = 5 from by subst hb0; rfl, Nat.add_zero] at hcell
  have hbl0 : (0 : Int) < (b.length : Int) := by rw [hb0]; simp only [List.length_cons]; omega
  have hbl1 : ((b.length : Int) == 0) = false := by rw [beq_eq_false_iff_ne]; omega
  have HB0 := Lib.hid hb0
  rw [show (((5 : UInt8)).toNat : Int) = 5 from rfl] at hcell
  subst hA
  clear hr hb0
  go_enter Try.func23, Try.ntmps23
  go_wp2_with fail
  have D3 := Lib.hid (show RSt w ((w.alloc (.cells #[.int .i64 0, .int .i64 0, .int .i64 0, .string ⟨#[]⟩, .slice none 0 0, .bool false] 25)).alloc (.cells #[.int .i64 5, .int .i64 0, .int .i64 0, .string ⟨#[]⟩, .slice none 0 0, .bool false] 25)) w.heap.size (w.heap.size + 1) #[.int .i64 5, .int .i64 0, .int .i64 0, .string ⟨#[]⟩, .slice none 0 0, .bool false] from
    ⟨((Below.refl w.heap.size w).alloc (Nat.le_refl _) _).alloc (by simp) _, (Blk.new w _ _).alloc _, by have := Blk.new (w.alloc (.cells #[.int .i64 0, .int .i64 0, .int .i64 0, .string ⟨#[]⟩, .slice none 0 0, .bool false] 25)) 25 #[.int .i64 5, .int .i64 0, .int .i64 0, .string ⟨#[]⟩, .slice none 0 0, .bool false]; simpa using this, Nat.le_refl _, by omega⟩)
  obtain ⟨X3, hX3⟩ : ∃ x, x = (w.alloc (.cells #[.int .i64 0, .int .i64 0, .int .i64 0, .string ⟨#[]⟩, .slice none 0 0, .bool false] 25)).alloc (.cells #[.int .i64 5, .int .i64 0, .int .i64 0, .string ⟨#[]⟩, .slice none 0 0, .bool false] 25) := ⟨_, rfl⟩
  rw [← hX3] at D3 ⊢
  obtain ⟨R, hR⟩ : ∃ x, x = w.heap.size := ⟨_, rfl⟩
  obtain ⟨E, hE⟩ : ∃ x, x = w.heap.size + 1 := ⟨_, rfl⟩
  rw [← hE, ← hR] at D3 ⊢
  clear hX3 hR hE hcell hbb
  have q0 := D3.out.ent.cell 0
  have f0 := D3.out.ent.frozen 0
  have q1 := D3.out.ent.cell 1
  have f1 := D3.out.ent.frozen 1
  have q2 := D3.out.ent.cell 2
  have f2 := D3.out.ent.frozen 2
  have q3 := D3.out.ent.cell 3
  have f3 := D3.out.ent.frozen 3
  have q4 := D3.out.ent.cell 4
  have f4 := D3.out.ent.frozen 4
  have q5 := D3.out.ent.cell 5
  have f5 := D3.out.ent.frozen 5
  simp at q0 q1 q2 q3 q4 q5
  refine (keyed_any 5).mono ?_
  rintro e w3' ⟨rfl, rfl⟩
  rw [show keyedF 5 = true from rfl]
  go_wp2_with fail
  have hx := rrow_any (c := c) ((HB.out.below D3.out.bel).more D3.out.bel.size) hl hc 1 (by omega) (by omega) 255 (by omega) (by omega)
  have hbd := rowA_bd (most := 255) (b := b) (t := 1) (by omega)
  have hpl := rowA_len (most := 255) (b := b) (t := 1)
  obtain ⟨⟨p1, t1⟩, hh⟩ : ∃ x, x = rowA 255 b 1 := ⟨_, rfl⟩
  have Ht1 := Lib.hid hh.symm
  rw [← hh] at hx hbd hpl
  simp only at hbd hpl
  obtain ⟨t1a, t1b⟩ := hbd
  have HLp1 := Lib.hid hpl
  clear hh hpl
  refine hx.mono ?_
  rintro e w4 ⟨A4, c4, rfl, ho, hb⟩
  simp only at ho ⊢
  have k1 := conv_text (BOwns.reads ho) c4
  obtain ⟨key, hkey⟩ : ∃ s : ByteArray, s = ⟨p1.toArray⟩ := ⟨_, rfl⟩
  rw [← hkey] at k1
  have HKEY := Lib.hid hkey
  obtain ⟨pn, hpn⟩ : ∃ n, n = p1.length := ⟨_, rfl⟩
  rw [← hpn] at k1 ⊢
  clear hkey hpn
  have D4' := Lib.hid (D3.out.go hb)
  clear hx ho hb D3
  have D4 := Lib.hid (show RSt w (w4.setCell ⟨E, 3, none⟩ (.string key)) R E #[.int .i64 5, .int .i64 0, .int .i64 0, .string key, .slice none 0 0, .bool false] from by simpa using D4'.out.set 3 (.string key))
  clear q0 q1 q2 q3 q4 q5 f0 f1 f2 f3 f4 f5
  have q3 := D4'.out.ent.cell 3
  have f3 := D4'.out.ent.frozen 3
  have q0 := D4'.out.ent.cell 0
  simp at q0 q3
  obtain ⟨X4, hX4⟩ : ∃ x, x = w4.setCell ⟨E, 3, none⟩ (.string key) := ⟨_, rfl⟩
  rw [← hX4] at D4
  have hE4 := Lib.hid hX4
  clear hX4 D4'
  go_wp2_with fail
  rw [← hE4.out]
  clear hE4
  clear q0 q3 f3
  clear k1
  have q0 := D4.out.ent.cell 0
  have f0 := D4.out.ent.frozen 0
  have q1 := D4.out.ent.cell 1
  have f1 := D4.out.ent.frozen 1
  have q2 := D4.out.ent.cell 2
  have f2 := D4.out.ent.frozen 2
  have q3 := D4.out.ent.cell 3
  have f3 := D4.out.ent.frozen 3
  have q4 := D4.out.ent.cell 4
  have f4 := D4.out.ent.frozen 4
  have q5 := D4.out.ent.cell 5
  have f5 := D4.out.ent.frozen 5
  simp at q0 q1 q2 q3 q4 q5
  refine (stamped_any 5).mono ?_
  rintro e w3' ⟨rfl, rfl⟩
  rw [show stampedF 5 = true from rfl]
  go_wp2_with fail
  have hx := rnum_any (c := c) (HB.out.below D4.out.bel) hl t1 (by omega) (by omega) 4611686018427387904 (by omega) (by omega)
  have hbd := numA_bd (most := 4611686018427387904) (b := b) (t := t1) (by omega)
  obtain ⟨⟨s, t2⟩, hh⟩ : ∃ x, x = numA 4611686018427387904 b t1 := ⟨_, rfl⟩
  have Ht2 := Lib.hid hh.symm
  rw [← hh] at hx hbd
  simp only at hbd
  obtain ⟨t2a, t2b, sa, sb⟩ := hbd
  clear hh
  refine hx.mono ?_
  rintro e w5 ⟨rfl, rfl⟩
  simp only
  have D5' := D4
  clear hx D4
  have D5 := Lib.hid (show RSt w (w5.setCell ⟨E, 1, none⟩ (.int .i64 s)) R E #[.int .i64 5, .int .i64 s, .int .i64 0, .string key, .slice none 0 0, .bool false] from by simpa using D5'.out.set 1 (.int .i64 s))
  clear q0 q1 q2 q3 q4 q5 f0 f1 f2 f3 f4 f5
  have q1 := D5'.out.ent.cell 1
  have f1 := D5'.out.ent.frozen 1
  have q0 := D5'.out.ent.cell 0
  simp at q0 q1
  obtain ⟨X5, hX5⟩ : ∃ x, x = w5.setCell ⟨E, 1, none⟩ (.int .i64 s) := ⟨_, rfl⟩
  rw [← hX5] at D5
  have hE5 := Lib.hid hX5
  clear hX5 D5'
  go_wp2_with fail
  rw [← hE5.out]
  clear hE5
  clear q0 q1 f1
  have q0 := D5.out.ent.cell 0
  have f0 := D5.out.ent.frozen 0
  have q1 := D5.out.ent.cell 1
  have f1 := D5.out.ent.frozen 1
  have q2 := D5.out.ent.cell 2
  have f2 := D5.out.ent.frozen 2
  have q3 := D5.out.ent.cell 3
  have f3 := D5.out.ent.frozen 3
  have q4 := D5.out.ent.cell 4
  have f4 := D5.out.ent.frozen 4
  have q5 := D5.out.ent.cell 5
  have f5 := D5.out.ent.frozen 5
  simp at q0 q1 q2 q3 q4 q5
  refine (counted_any 5).mono ?_
  rintro e w3' ⟨rfl, rfl⟩
  rw [show countedF 5 = false from rfl]
  by_cases hneg : t2 < 0
  · have HNY := Lib.hid (rdec_5n HB0.out Ht1.out Ht2.out hneg)
    have hr4 := Lib.hid (rowA_neg (most := 4096) (b := b) hneg)
    go_wp2_with fail
    refine (valued_any 5).mono ?_
    rintro e w3' ⟨rfl, rfl⟩
    rw [show valuedF 5 = true from rfl]
    go_wp2_with fail
    have hx := rrow_any (c := c) ((HB.out.below D5.out.bel).more D5.out.bel.size) hl hc t2 (by omega) (by omega) 4096 (by omega) (by omega)
    have hbd := rowA_bd (most := 4096) (b := b) (t := t2) (by omega)
    have hpl := rowA_len (most := 4096) (b := b) (t := t2)
    obtain ⟨⟨p2, t4⟩, hh⟩ : ∃ x, x = rowA 4096 b t2 := ⟨_, rfl⟩
    have Ht4 := Lib.hid hh.symm
    rw [← hh] at hx hbd hpl
    simp only at hbd hpl
    obtain ⟨t4a, t4b⟩ := hbd
    have HLp2 := Lib.hid hpl
    clear hh hpl
    refine hx.mono ?_
    rintro e w6 ⟨A6, c6, rfl, ho, hb⟩
    simp only at ho ⊢
    have D6' := Lib.hid (D5.out.go hb)
    have OV := Lib.hid (BOwns.setR D6'.out (owns_less ho D5.out.bel.size) 4 (.slice A6 p2.length c6))
    clear hx ho hb D5
    have D6 := Lib.hid (show RSt w (w6.setCell ⟨E, 4, none⟩ (.slice A6 p2.length c6)) R E #[.int .i64 5, .int .i64 s, .int .i64 0, .string key, .slice A6 p2.length c6, .bool false] from by simpa using D6'.out.set 4 (.slice A6 p2.length c6))
    clear q0 q1 q2 q3 q4 q5 f0 f1 f2 f3 f4 f5
    have q4 := D6'.out.ent.cell 4
    have f4 := D6'.out.ent.frozen 4
    have q0 := D6'.out.ent.cell 0
    simp at q0 q4
    obtain ⟨X6, hX6⟩ : ∃ x, x = w6.setCell ⟨E, 4, none⟩ (.slice A6 p2.length c6) := ⟨_, rfl⟩
    rw [← hX6] at D6 OV
    have hE6 := Lib.hid hX6
    clear hX6 D6'
    obtain rfl : t4 = -1 := by have := hr4.out; rw [Ht4.out] at this; injection this
    go_upto_region 21 with fail
    rw [← hE6.out]
    clear hE6
    clear q0 q4 f4
    have q0 := D6.out.ent.cell 0
    have f0 := D6.out.ent.frozen 0
    have q1 := D6.out.ent.cell 1
    have f1 := D6.out.ent.frozen 1
    have q2 := D6.out.ent.cell 2
    have f2 := D6.out.ent.frozen 2
    have q3 := D6.out.ent.cell 3
    have f3 := D6.out.ent.frozen 3
    have q4 := D6.out.ent.cell 4
    have f4 := D6.out.ent.frozen 4
    have q5 := D6.out.ent.cell 5
    have f5 := D6.out.ent.frozen 5
    simp at q0 q1 q2 q3 q4 q5
    have HKS := Lib.hid (show key.size ≤ b.length from by rw [HKEY.out]; show p1.toArray.size ≤ _; have := HLp1.out; simpa using this)
    by_cases hte : -1 = (b.length : Int)
    · exact absurd hte (by omega)
    · have hnb : ((-1 : Int) != (b.length : Int)) = true := by rw [bne_iff_ne]; exact hte
      have HNO := Lib.hid (HNY.out)
      clear hte q0 q1 q2 q3 q4 q5 f0 f1 f2 f3 f4 f5
      have z0 := D6.out.res.cell 0
      have g0 := D6.out.res.frozen 0
      have z1 := D6.out.res.cell 1
      have g1 := D6.out.res.frozen 1
      have z2 := D6.out.res.cell 2
      have g2 := D6.out.res.frozen 2
      have z3 := D6.out.res.cell 3
      have g3 := D6.out.res.frozen 3
      have z4 := D6.out.res.cell 4
      have g4 := D6.out.res.frozen 4
      have z5 := D6.out.res.cell 5
      have g5 := D6.out.res.frozen 5
      simp at z0 z1 z2 z3 z4 z5
      have KR3 := Lib.hid (D6.out.res.put6 (.int .i64 0) (.int .i64 0) (.int .i64 0) (.string ⟨#[]⟩) (.slice none 0 0) (.bool false))
      have B3 := Lib.hid (D6.out.bel.trans ((keeps_set6 X6 R (.int .i64 0) (.int .i64 0) (.int .i64 0) (.string ⟨#[]⟩) (.slice none 0 0) (.bool false)).below D6.out.bel.size (fun i hi => by rw [hi]; exact D6.out.o1)))
      go_wp2
      unfold set6 at KR3 B3
      have y0 := KR3.out.cell 0
      have y1 := KR3.out.cell 1
      have y2 := KR3.out.cell 2
      have y3 := KR3.out.cell 3
      have y4 := KR3.out.cell 4
      have y5 := KR3.out.cell 5
      simp only [List.getElem?_toArray, List.getElem?_cons_zero, List.getElem?_cons_succ] at y0 y1 y2 y3 y4 y5
      exact bodyPost_ret (v := .tuple #[.agg #[.int .i64 0, .int .i64 0, .int .i64 0, .string ⟨#[]⟩, .slice none 0 0, .bool false], .int .i64 100]) (by simp [results, Try.results23, go_sem, y0, y1, y2, y3, y4, y5]) rfl (.inr ⟨HNO.out, rfl, B3.out⟩)
  · obtain ⟨K, rfl⟩ : ∃ K : Nat, t2 = K := ⟨t2.toNat, by omega⟩
    clear hneg
    by_cases hKl : (b.length : Int) ≤ (K : Int)
    · have HNO := Lib.hid (rdec_5l HB0.out Ht1.out Ht2.out hKl)
      have z0 := D5.out.res.cell 0
      have g0 := D5.out.res.frozen 0
      have z1 := D5.out.res.cell 1
      have g1 := D5.out.res.frozen 1
      have z2 := D5.out.res.cell 2
      have g2 := D5.out.res.frozen 2
      have z3 := D5.out.res.cell 3
      have g3 := D5.out.res.frozen 3
      have z4 := D5.out.res.cell 4
      have g4 := D5.out.res.frozen 4
      have z5 := D5.out.res.cell 5
      have g5 := D5.out.res.frozen 5
      simp at z0 z1 z2 z3 z4 z5
      have KR3 := Lib.hid (D5.out.res.put6 (.int .i64 0) (.int .i64 0) (.int .i64 0) (.string ⟨#[]⟩) (.slice none 0 0) (.bool false))
      have B3 := Lib.hid (D5.out.bel.trans ((keeps_set6 X5 R (.int .i64 0) (.int .i64 0) (.int .i64 0) (.string ⟨#[]⟩) (.slice none 0 0) (.bool false)).below D5.out.bel.size (fun i hi => by rw [hi]; exact D5.out.o1)))
      go_wp2
      unfold set6 at KR3 B3
      have y0 := KR3.out.cell 0
      have y1 := KR3.out.cell 1
      have y2 := KR3.out.cell 2
      have y3 := KR3.out.cell 3
      have y4 := KR3.out.cell 4
      have y5 := KR3.out.cell 5
      simp only [List.getElem?_toArray, List.getElem?_cons_zero, List.getElem?_cons_succ] at y0 y1 y2 y3 y4 y5
      exact bodyPost_ret (v := .tuple #[.agg #[.int .i64 0, .int .i64 0, .int .i64 0, .string ⟨#[]⟩, .slice none 0 0, .bool false], .int .i64 100]) (by simp [results, Try.results23, go_sem, y0, y1, y2, y3, y4, y5]) rfl (.inr ⟨HNO.out, rfl, B3.out⟩)
    · have hKN : K < b.length := by omega
      have hcc := (HB.out.below D5.out.bel).at_ hKN
      obtain ⟨bb2, off2, hA2, _, hcc⟩ := hcc
      injection hA2 with hA2
      injection hA2 with e1 e2
      subst e1; subst e2
      by_cases hbig : 1 < b[K].toNat
      · have HNO := Lib.hid (rdec_5b HB0.out Ht1.out Ht2.out hKN hbig)
        obtain ⟨xb, hxb⟩ : ∃ xb : Nat, xb = b[K].toNat := ⟨_, rfl⟩
        rw [← hxb] at hcc hbig
        clear hxb
        have hbig2 : (1 : Int) < (xb : Int) := by omega
        clear hbig
        have z0 := D5.out.res.cell 0
        have g0 := D5.out.res.frozen 0
        have z1 := D5.out.res.cell 1
        have g1 := D5.out.res.frozen 1
        have z2 := D5.out.res.cell 2
        have g2 := D5.out.res.frozen 2
        have z3 := D5.out.res.cell 3
        have g3 := D5.out.res.frozen 3
        have z4 := D5.out.res.cell 4
        have g4 := D5.out.res.frozen 4
        have z5 := D5.out.res.cell 5
        have g5 := D5.out.res.frozen 5
        simp at z0 z1 z2 z3 z4 z5
        have KR3 := Lib.hid (D5.out.res.put6 (.int .i64 0) (.int .i64 0) (.int .i64 0) (.string ⟨#[]⟩) (.slice none 0 0) (.bool false))
        have B3 := Lib.hid (D5.out.bel.trans ((keeps_set6 X5 R (.int .i64 0) (.int .i64 0) (.int .i64 0) (.string ⟨#[]⟩) (.slice none 0 0) (.bool false)).below D5.out.bel.size (fun i hi => by rw [hi]; exact D5.out.o1)))
        go_wp2
        unfold set6 at KR3 B3
        have y0 := KR3.out.cell 0
        have y1 := KR3.out.cell 1
        have y2 := KR3.out.cell 2
        have y3 := KR3.out.cell 3
        have y4 := KR3.out.cell 4
        have y5 := KR3.out.cell 5
        simp only [List.getElem?_toArray, List.getElem?_cons_zero, List.getElem?_cons_succ] at y0 y1 y2 y3 y4 y5
        exact bodyPost_ret (v := .tuple #[.agg #[.int .i64 0, .int .i64 0, .int .i64 0, .string ⟨#[]⟩, .slice none 0 0, .bool false], .int .i64 100]) (by simp [results, Try.results23, go_sem, y0, y1, y2, y3, y4, y5]) rfl (.inr ⟨HNO.out, rfl, B3.out⟩)
      · have hd : b[K] = 0 ∨ b[K] = 1 := by
          rcases (show b[K].toNat = 0 ∨ b[K].toNat = 1 from by omega) with h | h
          · exact .inl (UInt8.toNat_inj.1 h)
          · exact .inr (UInt8.toNat_inj.1 h)
        clear hbig
        have hKlt : (K : Int) < (b.length : Int) := by omega
        rcases hd with hd | hd
        · rw [hd] at hcc
          rw [show ((0 : UInt8).toNat : Int) = 0 from rfl] at hcc
          have HD : Hid (∃ hK : K < b.length, b[K] = (if false then (1 : UInt8) else 0)) := Lib.hid ⟨hKN, hd⟩
          clear hd hKN
          have D6' := D5
          clear D5
          have D6 := Lib.hid (show RSt w (X5.setCell ⟨E, 5, none⟩ (.bool false)) R E #[.int .i64 5, .int .i64 s, .int .i64 0, .string key, .slice none 0 0, .bool false] from by simpa using D6'.out.set 5 (.bool false))
          obtain ⟨X6, hX6⟩ : ∃ x, x = X5.setCell ⟨E, 5, none⟩ (.bool false) := ⟨_, rfl⟩
          rw [← hX6] at D6
          have hE6 := Lib.hid hX6
          clear hX6 D6' q1 q2 q3 q4 f0 f1 f2 f3 f4
          go_wp2_with fail
          rw [← hE6.out]
          clear hE6
          clear q0 q5 f5
          have q0 := D6.out.ent.cell 0
          have f0 := D6.out.ent.frozen 0
          have q1 := D6.out.ent.cell 1
          have f1 := D6.out.ent.frozen 1
          have q2 := D6.out.ent.cell 2
          have f2 := D6.out.ent.frozen 2
          have q3 := D6.out.ent.cell 3
          have f3 := D6.out.ent.frozen 3
          have q4 := D6.out.ent.cell 4
          have f4 := D6.out.ent.frozen 4
          have q5 := D6.out.ent.cell 5
          have f5 := D6.out.ent.frozen 5
          simp at q0 q1 q2 q3 q4 q5
          clear hcc
          refine (valued_any 5).mono ?_
          rintro e w3' ⟨rfl, rfl⟩
          rw [show valuedF 5 = true from rfl]
          go_wp2_with fail
          have hx := rrow_any (c := c) ((HB.out.below D6.out.bel).more D6.out.bel.size) hl hc ((K : Int) + 1) (by omega) (by omega) 4096 (by omega) (by omega)
          have hbd := rowA_bd (most := 4096) (b := b) (t := ((K : Int) + 1)) (by omega)
          have hpl := rowA_len (most := 4096) (b := b) (t := ((K : Int) + 1))
          obtain ⟨⟨p2, t4⟩, hh⟩ : ∃ x, x = rowA 4096 b ((K : Int) + 1) := ⟨_, rfl⟩
          have Ht4 := Lib.hid hh.symm
          rw [← hh] at hx hbd hpl
          simp only at hbd hpl
          obtain ⟨t4a, t4b⟩ := hbd
          have HLp2 := Lib.hid hpl
          clear hh hpl
          refine hx.mono ?_
          rintro e w7 ⟨A7, c7, rfl, ho, hb⟩
          simp only at ho ⊢
          have D7' := Lib.hid (D6.out.go hb)
          have OV := Lib.hid (BOwns.setR D7'.out (owns_less ho D6.out.bel.size) 4 (.slice A7 p2.length c7))
          clear hx ho hb D6
          have D7 := Lib.hid (show RSt w (w7.setCell ⟨E, 4, none⟩ (.slice A7 p2.length c7)) R E #[.int .i64 5, .int .i64 s, .int .i64 0, .string key, .slice A7 p2.length c7, .bool false] from by simpa using D7'.out.set 4 (.slice A7 p2.length c7))
          clear q0 q1 q2 q3 q4 q5 f0 f1 f2 f3 f4 f5
          have q4 := D7'.out.ent.cell 4
          have f4 := D7'.out.ent.frozen 4
          have q0 := D7'.out.ent.cell 0
          simp at q0 q4
          obtain ⟨X7, hX7⟩ : ∃ x, x = w7.setCell ⟨E, 4, none⟩ (.slice A7 p2.length c7) := ⟨_, rfl⟩
          rw [← hX7] at D7 OV
          have hE7 := Lib.hid hX7
          clear hX7 D7'
          go_upto_region 21 with fail
          rw [← hE7.out]
          clear hE7
          clear q0 q4 f4
          have q0 := D7.out.ent.cell 0
          have f0 := D7.out.ent.frozen 0
          have q1 := D7.out.ent.cell 1
          have f1 := D7.out.ent.frozen 1
          have q2 := D7.out.ent.cell 2
          have f2 := D7.out.ent.frozen 2
          have q3 := D7.out.ent.cell 3
          have f3 := D7.out.ent.frozen 3
          have q4 := D7.out.ent.cell 4
          have f4 := D7.out.ent.frozen 4
          have q5 := D7.out.ent.cell 5
          have f5 := D7.out.ent.frozen 5
          simp at q0 q1 q2 q3 q4 q5
          have HTL := Lib.hid (show RTells b ⟨5, s, 0, key, p2, false⟩ t4 from by obtain ⟨hK, hd⟩ := HD.out; have h := rdec_5 (d := false) HB0.out Ht1.out Ht2.out hK (by simpa using hd) Ht4.out; rw [← HKEY.out] at h; exact h)
          have HKS := Lib.hid (show key.size ≤ b.length from by rw [HKEY.out]; show p1.toArray.size ≤ _; have := HLp1.out; simpa using this)
          by_cases hte : t4 = (b.length : Int)
          · have hnb : ((t4 : Int) != (b.length : Int)) = false := by rw [bne_eq_false_iff_eq]; exact hte
            have HTE := Lib.hid hte
            clear hte
            go_wp2_with fail
            refine (rcheck_any (A := A7) (c := c7) ⟨5, s, 0, key, p2, false⟩ (by show key.size ≤ _; have := HKS.out; omega) (by show p2.length ≤ _; have := HLp2.out; omega)).mono ?_
            rintro e w20 ⟨rfl, hb⟩
            have D20 := Lib.hid (D7.out.go hb)
            have OV20 := Lib.hid (BOwns.below OV.out hb)
            by_cases hm : En.may ⟨5, s, 0, key, p2, false⟩
            · rw [En.chk_ok hm]
              have HM := Lib.hid hm
              clear hb hm D7 q0 q1 q2 q3 q4 q5 f0 f1 f2 f3 f4 f5
              have q0 := D20.out.ent.cell 0
              have q1 := D20.out.ent.cell 1
              have q2 := D20.out.ent.cell 2
              have q3 := D20.out.ent.cell 3
              have q4 := D20.out.ent.cell 4
              have q5 := D20.out.ent.cell 5
              have z0 := D20.out.res.cell 0
              have g0 := D20.out.res.frozen 0
              have z1 := D20.out.res.cell 1
              have g1 := D20.out.res.frozen 1
              have z2 := D20.out.res.cell 2
              have g2 := D20.out.res.frozen 2
              have z3 := D20.out.res.cell 3
              have g3 := D20.out.res.frozen 3
              have z4 := D20.out.res.cell 4
              have g4 := D20.out.res.frozen 4
              have z5 := D20.out.res.cell 5
              have g5 := D20.out.res.frozen 5
              simp at q0 q1 q2 q3 q4 q5 z0 z1 z2 z3 z4 z5
              have KR3 := Lib.hid (D20.out.res.put6 (.int .i64 5) (.int .i64 s) (.int .i64 0) (.string key) (.slice A7 p2.length c7) (.bool false))
              have B3 := Lib.hid (D20.out.bel.trans ((keeps_set6 w20 R (.int .i64 5) (.int .i64 s) (.int .i64 0) (.string key) (.slice A7 p2.length c7) (.bool false)).below D20.out.bel.size (fun i hi => by rw [hi]; exact D20.out.o1)))
              have OV3 := Lib.hid (OV20.out.farBlk D20.out.res (by decide) (keeps_set6 w20 R (.int .i64 5) (.int .i64 s) (.int .i64 0) (.string key) (.slice A7 p2.length c7) (.bool false)))
              go_wp2
              unfold set6 at KR3 B3 OV3
              have y0 := KR3.out.cell 0
              have y1 := KR3.out.cell 1
              have y2 := KR3.out.cell 2
              have y3 := KR3.out.cell 3
              have y4 := KR3.out.cell 4
              have y5 := KR3.out.cell 5
              simp only [List.getElem?_toArray, List.getElem?_cons_zero, List.getElem?_cons_succ] at y0 y1 y2 y3 y4 y5
              exact bodyPost_ret (v := .tuple #[.agg #[.int .i64 5, .int .i64 s, .int .i64 0, .string key, .slice A7 p2.length c7, .bool false], .int .i64 0]) (by simp [results, Try.results23, go_sem, y0, y1, y2, y3, y4, y5]) rfl (.inl ⟨⟨5, s, 0, key, p2, false⟩, HM.out, HTL.out.2 HM.out HTE.out, A7, c7, rfl, OV3.out, B3.out⟩)
            · rw [En.chk_no hm]
              have HNO := Lib.hid (HTL.out.no (fun h => hm h.1))
              clear hb hm q0 q1 q2 q3 q4 q5 f0 f1 f2 f3 f4 f5
              have z0 := D20.out.res.cell 0
              have g0 := D20.out.res.frozen 0
              have z1 := D20.out.res.cell 1
              have g1 := D20.out.res.frozen 1
              have z2 := D20.out.res.cell 2
              have g2 := D20.out.res.frozen 2
              have z3 := D20.out.res.cell 3
              have g3 := D20.out.res.frozen 3
              have z4 := D20.out.res.cell 4
              have g4 := D20.out.res.frozen 4
              have z5 := D20.out.res.cell 5
              have g5 := D20.out.res.frozen 5
              simp at z0 z1 z2 z3 z4 z5
              have KR3 := Lib.hid (D20.out.res.put6 (.int .i64 0) (.int .i64 0) (.int .i64 0) (.string ⟨#[]⟩) (.slice none 0 0) (.bool false))
              have B3 := Lib.hid (D20.out.bel.trans ((keeps_set6 w20 R (.int .i64 0) (.int .i64 0) (.int .i64 0) (.string ⟨#[]⟩) (.slice none 0 0) (.bool false)).below D20.out.bel.size (fun i hi => by rw [hi]; exact D20.out.o1)))
              go_wp2
              unfold set6 at KR3 B3
              have y0 := KR3.out.cell 0
              have y1 := KR3.out.cell 1
              have y2 := KR3.out.cell 2
              have y3 := KR3.out.cell 3
              have y4 := KR3.out.cell 4
              have y5 := KR3.out.cell 5
              simp only [List.getElem?_toArray, List.getElem?_cons_zero, List.getElem?_cons_succ] at y0 y1 y2 y3 y4 y5
              exact bodyPost_ret (v := .tuple #[.agg #[.int .i64 0, .int .i64 0, .int .i64 0, .string ⟨#[]⟩, .slice none 0 0, .bool false], .int .i64 100]) (by simp [results, Try.results23, go_sem, y0, y1, y2, y3, y4, y5]) rfl (.inr ⟨HNO.out, rfl, B3.out⟩)
          · have hnb : ((t4 : Int) != (b.length : Int)) = true := by rw [bne_iff_ne]; exact hte
            have HNO := Lib.hid (HTL.out.no (fun h => hte h.2))
            clear hte q0 q1 q2 q3 q4 q5 f0 f1 f2 f3 f4 f5
            have z0 := D7.out.res.cell 0
            have g0 := D7.out.res.frozen 0
            have z1 := D7.out.res.cell 1
            have g1 := D7.out.res.frozen 1
            have z2 := D7.out.res.cell 2
            have g2 := D7.out.res.frozen 2
            have z3 := D7.out.res.cell 3
            have g3 := D7.out.res.frozen 3
            have z4 := D7.out.res.cell 4
            have g4 := D7.out.res.frozen 4
            have z5 := D7.out.res.cell 5
            have g5 := D7.out.res.frozen 5
            simp at z0 z1 z2 z3 z4 z5
            have KR3 := Lib.hid (D7.out.res.put6 (.int .i64 0) (.int .i64 0) (.int .i64 0) (.string ⟨#[]⟩) (.slice none 0 0) (.bool false))
            have B3 := Lib.hid (D7.out.bel.trans ((keeps_set6 X7 R (.int .i64 0) (.int .i64 0) (.int .i64 0) (.string ⟨#[]⟩) (.slice none 0 0) (.bool false)).below D7.out.bel.size (fun i hi => by rw [hi]; exact D7.out.o1)))
            go_wp2
            unfold set6 at KR3 B3
            have y0 := KR3.out.cell 0
            have y1 := KR3.out.cell 1
            have y2 := KR3.out.cell 2
            have y3 := KR3.out.cell 3
            have y4 := KR3.out.cell 4
            have y5 := KR3.out.cell 5
            simp only [List.getElem?_toArray, List.getElem?_cons_zero, List.getElem?_cons_succ] at y0 y1 y2 y3 y4 y5
            exact bodyPost_ret (v := .tuple #[.agg #[.int .i64 0, .int .i64 0, .int .i64 0, .string ⟨#[]⟩, .slice none 0 0, .bool false], .int .i64 100]) (by simp [results, Try.results23, go_sem, y0, y1, y2, y3, y4, y5]) rfl (.inr ⟨HNO.out, rfl, B3.out⟩)
        · rw [hd] at hcc
          rw [show ((1 : UInt8).toNat : Int) = 1 from rfl] at hcc
          have HD : Hid (∃ hK : K < b.length, b[K] = (if true then (1 : UInt8) else 0)) := Lib.hid ⟨hKN, hd⟩
          clear hd hKN
          have D6' := D5
          clear D5
          have D6 := Lib.hid (show RSt w (X5.setCell ⟨E, 5, none⟩ (.bool true)) R E #[.int .i64 5, .int .i64 s, .int .i64 0, .string key, .slice none 0 0, .bool true] from by simpa using D6'.out.set 5 (.bool true))
          obtain ⟨X6, hX6⟩ : ∃ x, x = X5.setCell ⟨E, 5, none⟩ (.bool true) := ⟨_, rfl⟩
          rw [← hX6] at D6
          have hE6 := Lib.hid hX6
          clear hX6 D6' q1 q2 q3 q4 f0 f1 f2 f3 f4
          go_wp2_with fail
          rw [← hE6.out]
          clear hE6
          clear q0 q5 f5
          have q0 := D6.out.ent.cell 0
          have f0 := D6.out.ent.frozen 0
          have q1 := D6.out.ent.cell 1
          have f1 := D6.out.ent.frozen 1
          have q2 := D6.out.ent.cell 2
          have f2 := D6.out.ent.frozen 2
          have q3 := D6.out.ent.cell 3
          have f3 := D6.out.ent.frozen 3
          have q4 := D6.out.ent.cell 4
          have f4 := D6.out.ent.frozen 4
          have q5 := D6.out.ent.cell 5
          have f5 := D6.out.ent.frozen 5
          simp at q0 q1 q2 q3 q4 q5
          clear hcc
          refine (valued_any 5).mono ?_
          rintro e w3' ⟨rfl, rfl⟩
          rw [show valuedF 5 = true from rfl]
          go_wp2_with fail
          have hx := rrow_any (c := c) ((HB.out.below D6.out.bel).more D6.out.bel.size) hl hc ((K : Int) + 1) (by omega) (by omega) 4096 (by omega) (by omega)
          have hbd := rowA_bd (most := 4096) (b := b) (t := ((K : Int) + 1)) (by omega)
          have hpl := rowA_len (most := 4096) (b := b) (t := ((K : Int) + 1))
          obtain ⟨⟨p2, t4⟩, hh⟩ : ∃ x, x = rowA 4096 b ((K : Int) + 1) := ⟨_, rfl⟩
          have Ht4 := Lib.hid hh.symm
          rw [← hh] at hx hbd hpl
          simp only at hbd hpl
          obtain ⟨t4a, t4b⟩ := hbd
          have HLp2 := Lib.hid hpl
          clear hh hpl
          refine hx.mono ?_
          rintro e w7 ⟨A7, c7, rfl, ho, hb⟩
          simp only at ho ⊢
          have D7' := Lib.hid (D6.out.go hb)
          have OV := Lib.hid (BOwns.setR D7'.out (owns_less ho D6.out.bel.size) 4 (.slice A7 p2.length c7))
          clear hx ho hb D6
          have D7 := Lib.hid (show RSt w (w7.setCell ⟨E, 4, none⟩ (.slice A7 p2.length c7)) R E #[.int .i64 5, .int .i64 s, .int .i64 0, .string key, .slice A7 p2.length c7, .bool true] from by simpa using D7'.out.set 4 (.slice A7 p2.length c7))
          clear q0 q1 q2 q3 q4 q5 f0 f1 f2 f3 f4 f5
          have q4 := D7'.out.ent.cell 4
          have f4 := D7'.out.ent.frozen 4
          have q0 := D7'.out.ent.cell 0
          simp at q0 q4
          obtain ⟨X7, hX7⟩ : ∃ x, x = w7.setCell ⟨E, 4, none⟩ (.slice A7 p2.length c7) := ⟨_, rfl⟩
          rw [← hX7] at D7 OV
          have hE7 := Lib.hid hX7
          clear hX7 D7'
          go_upto_region 21 with fail
          rw [← hE7.out]
          clear hE7
          clear q0 q4 f4
          have q0 := D7.out.ent.cell 0
          have f0 := D7.out.ent.frozen 0
          have q1 := D7.out.ent.cell 1
          have f1 := D7.out.ent.frozen 1
          have q2 := D7.out.ent.cell 2
          have f2 := D7.out.ent.frozen 2
          have q3 := D7.out.ent.cell 3
          have f3 := D7.out.ent.frozen 3
          have q4 := D7.out.ent.cell 4
          have f4 := D7.out.ent.frozen 4
          have q5 := D7.out.ent.cell 5
          have f5 := D7.out.ent.frozen 5
          simp at q0 q1 q2 q3 q4 q5
          have HTL := Lib.hid (show RTells b ⟨5, s, 0, key, p2, true⟩ t4 from by obtain ⟨hK, hd⟩ := HD.out; have h := rdec_5 (d := true) HB0.out Ht1.out Ht2.out hK (by simpa using hd) Ht4.out; rw [← HKEY.out] at h; exact h)
          have HKS := Lib.hid (show key.size ≤ b.length from by rw [HKEY.out]; show p1.toArray.size ≤ _; have := HLp1.out; simpa using this)
          by_cases hte : t4 = (b.length : Int)
          · have hnb : ((t4 : Int) != (b.length : Int)) = false := by rw [bne_eq_false_iff_eq]; exact hte
            have HTE := Lib.hid hte
            clear hte
            go_wp2_with fail
            refine (rcheck_any (A := A7) (c := c7) ⟨5, s, 0, key, p2, true⟩ (by show key.size ≤ _; have := HKS.out; omega) (by show p2.length ≤ _; have := HLp2.out; omega)).mono ?_
            rintro e w20 ⟨rfl, hb⟩
            have D20 := Lib.hid (D7.out.go hb)
            have OV20 := Lib.hid (BOwns.below OV.out hb)
            by_cases hm : En.may ⟨5, s, 0, key, p2, true⟩
            · rw [En.chk_ok hm]
              have HM := Lib.hid hm
              clear hb hm D7 q0 q1 q2 q3 q4 q5 f0 f1 f2 f3 f4 f5
              have q0 := D20.out.ent.cell 0
              have q1 := D20.out.ent.cell 1
              have q2 := D20.out.ent.cell 2
              have q3 := D20.out.ent.cell 3
              have q4 := D20.out.ent.cell 4
              have q5 := D20.out.ent.cell 5
              have z0 := D20.out.res.cell 0
              have g0 := D20.out.res.frozen 0
              have z1 := D20.out.res.cell 1
              have g1 := D20.out.res.frozen 1
              have z2 := D20.out.res.cell 2
              have g2 := D20.out.res.frozen 2
              have z3 := D20.out.res.cell 3
              have g3 := D20.out.res.frozen 3
              have z4 := D20.out.res.cell 4
              have g4 := D20.out.res.frozen 4
              have z5 := D20.out.res.cell 5
              have g5 := D20.out.res.frozen 5
              simp at q0 q1 q2 q3 q4 q5 z0 z1 z2 z3 z4 z5
              have KR3 := Lib.hid (D20.out.res.put6 (.int .i64 5) (.int .i64 s) (.int .i64 0) (.string key) (.slice A7 p2.length c7) (.bool true))
              have B3 := Lib.hid (D20.out.bel.trans ((keeps_set6 w20 R (.int .i64 5) (.int .i64 s) (.int .i64 0) (.string key) (.slice A7 p2.length c7) (.bool true)).below D20.out.bel.size (fun i hi => by rw [hi]; exact D20.out.o1)))
              have OV3 := Lib.hid (OV20.out.farBlk D20.out.res (by decide) (keeps_set6 w20 R (.int .i64 5) (.int .i64 s) (.int .i64 0) (.string key) (.slice A7 p2.length c7) (.bool true)))
              go_wp2
              unfold set6 at KR3 B3 OV3
              have y0 := KR3.out.cell 0
              have y1 := KR3.out.cell 1
              have y2 := KR3.out.cell 2
              have y3 := KR3.out.cell 3
              have y4 := KR3.out.cell 4
              have y5 := KR3.out.cell 5
              simp only [List.getElem?_toArray, List.getElem?_cons_zero, List.getElem?_cons_succ] at y0 y1 y2 y3 y4 y5
              exact bodyPost_ret (v := .tuple #[.agg #[.int .i64 5, .int .i64 s, .int .i64 0, .string key, .slice A7 p2.length c7, .bool true], .int .i64 0]) (by simp [results, Try.results23, go_sem, y0, y1, y2, y3, y4, y5]) rfl (.inl ⟨⟨5, s, 0, key, p2, true⟩, HM.out, HTL.out.2 HM.out HTE.out, A7, c7, rfl, OV3.out, B3.out⟩)
            · rw [En.chk_no hm]
              have HNO := Lib.hid (HTL.out.no (fun h => hm h.1))
              clear hb hm q0 q1 q2 q3 q4 q5 f0 f1 f2 f3 f4 f5
              have z0 := D20.out.res.cell 0
              have g0 := D20.out.res.frozen 0
              have z1 := D20.out.res.cell 1
              have g1 := D20.out.res.frozen 1
              have z2 := D20.out.res.cell 2
              have g2 := D20.out.res.frozen 2
              have z3 := D20.out.res.cell 3
              have g3 := D20.out.res.frozen 3
              have z4 := D20.out.res.cell 4
              have g4 := D20.out.res.frozen 4
              have z5 := D20.out.res.cell 5
              have g5 := D20.out.res.frozen 5
              simp at z0 z1 z2 z3 z4 z5
              have KR3 := Lib.hid (D20.out.res.put6 (.int .i64 0) (.int .i64 0) (.int .i64 0) (.string ⟨#[]⟩) (.slice none 0 0) (.bool false))
              have B3 := Lib.hid (D20.out.bel.trans ((keeps_set6 w20 R (.int .i64 0) (.int .i64 0) (.int .i64 0) (.string ⟨#[]⟩) (.slice none 0 0) (.bool false)).below D20.out.bel.size (fun i hi => by rw [hi]; exact D20.out.o1)))
              go_wp2
              unfold set6 at KR3 B3
              have y0 := KR3.out.cell 0
              have y1 := KR3.out.cell 1
              have y2 := KR3.out.cell 2
              have y3 := KR3.out.cell 3
              have y4 := KR3.out.cell 4
              have y5 := KR3.out.cell 5
              simp only [List.getElem?_toArray, List.getElem?_cons_zero, List.getElem?_cons_succ] at y0 y1 y2 y3 y4 y5
              exact bodyPost_ret (v := .tuple #[.agg #[.int .i64 0, .int .i64 0, .int .i64 0, .string ⟨#[]⟩, .slice none 0 0, .bool false], .int .i64 100]) (by simp [results, Try.results23, go_sem, y0, y1, y2, y3, y4, y5]) rfl (.inr ⟨HNO.out, rfl, B3.out⟩)
          · have hnb : ((t4 : Int) != (b.length : Int)) = true := by rw [bne_iff_ne]; exact hte
            have HNO := Lib.hid (HTL.out.no (fun h => hte h.2))
            clear hte q0 q1 q2 q3 q4 q5 f0 f1 f2 f3 f4 f5
            have z0 := D7.out.res.cell 0
            have g0 := D7.out.res.frozen 0
            have z1 := D7.out.res.cell 1
            have g1 := D7.out.res.frozen 1
            have z2 := D7.out.res.cell 2
            have g2 := D7.out.res.frozen 2
            have z3 := D7.out.res.cell 3
            have g3 := D7.out.res.frozen 3
            have z4 := D7.out.res.cell 4
            have g4 := D7.out.res.frozen 4
            have z5 := D7.out.res.cell 5
            have g5 := D7.out.res.frozen 5
            simp at z0 z1 z2 z3 z4 z5
            have KR3 := Lib.hid (D7.out.res.put6 (.int .i64 0) (.int .i64 0) (.int .i64 0) (.string ⟨#[]⟩) (.slice none 0 0) (.bool false))
            have B3 := Lib.hid (D7.out.bel.trans ((keeps_set6 X7 R (.int .i64 0) (.int .i64 0) (.int .i64 0) (.string ⟨#[]⟩) (.slice none 0 0) (.bool false)).below D7.out.bel.size (fun i hi => by rw [hi]; exact D7.out.o1)))
            go_wp2
            unfold set6 at KR3 B3
            have y0 := KR3.out.cell 0
            have y1 := KR3.out.cell 1
            have y2 := KR3.out.cell 2
            have y3 := KR3.out.cell 3
            have y4 := KR3.out.cell 4
            have y5 := KR3.out.cell 5
            simp only [List.getElem?_toArray, List.getElem?_cons_zero, List.getElem?_cons_succ] at y0 y1 y2 y3 y4 y5
            exact bodyPost_ret (v := .tuple #[.agg #[.int .i64 0, .int .i64 0, .int .i64 0, .string ⟨#[]⟩, .slice none 0 0, .bool false], .int .i64 100]) (by simp [results, Try.results23, go_sem, y0, y1, y2, y3, y4, y5]) rfl (.inr ⟨HNO.out, rfl, B3.out⟩)
set_option maxRecDepth 100000 in
set_option maxHeartbeats 6400000 in
theorem rdecx_any {w : World} {A : Option Addr} {c : Nat} {b r : List UInt8} (hr : BReads w w.heap.size A b) (hl : b.length ≤ 140737488355328) (hc : b.length ≤ c) {x : UInt8} (hb0 : b = x :: r) (hx : ¬ (1 ≤ x.toNat ∧ x.toNat ≤ 6)) :
    Calls Try.prog 23 #[.slice A b.length c] w (DecPost w b) := by
  have HB := Lib.hid hr
  have hcell := hr.at_ (k := 0) (by rw [hb0]; simp)
  obtain ⟨bb, off, hA, hbb, hcell⟩ := hcell
  rw [show b[0]'(by rw [hb0]; simp) = x from by subst hb0; rfl, Nat.add_zero] at hcell
  have hbl0 : (0 : Int) < (b.length : Int) := by rw [hb0]; simp only [List.length_cons]; omega
  have hbl1 : ((b.length : Int) == 0) = false := by rw [beq_eq_false_iff_ne]; omega
  have HB0 := Lib.hid hb0
  obtain ⟨kk, hkk⟩ : ∃ kk : Int, kk = (x.toNat : Int) := ⟨_, rfl⟩
  rw [← hkk] at hcell
  have hx8 := x.toNat_lt
  have kk0 : 0 ≤ kk := by omega
  have kk1 : kk ≤ 255 := by omega
  have hkx : ¬ (1 ≤ kk ∧ kk ≤ 6) := by omega
  have kk5 : (kk == 5) = false := by rw [beq_eq_false_iff_ne]; omega
  have HKM := Lib.hid hkx
  have HKX := Lib.hid hx
  clear hkx hx
  have HKK := Lib.hid hkk
  clear hkk
  subst hA
  clear hr hb0
  go_enter Try.func23, Try.ntmps23
  go_wp2_with fail
  have D3 := Lib.hid (show RSt w ((w.alloc (.cells #[.int .i64 0, .int .i64 0, .int .i64 0, .string ⟨#[]⟩, .slice none 0 0, .bool false] 25)).alloc (.cells #[.int .i64 kk, .int .i64 0, .int .i64 0, .string ⟨#[]⟩, .slice none 0 0, .bool false] 25)) w.heap.size (w.heap.size + 1) #[.int .i64 kk, .int .i64 0, .int .i64 0, .string ⟨#[]⟩, .slice none 0 0, .bool false] from
    ⟨((Below.refl w.heap.size w).alloc (Nat.le_refl _) _).alloc (by simp) _, (Blk.new w _ _).alloc _, by have := Blk.new (w.alloc (.cells #[.int .i64 0, .int .i64 0, .int .i64 0, .string ⟨#[]⟩, .slice none 0 0, .bool false] 25)) 25 #[.int .i64 kk, .int .i64 0, .int .i64 0, .string ⟨#[]⟩, .slice none 0 0, .bool false]; simpa using this, Nat.le_refl _, by omega⟩)
  obtain ⟨X3, hX3⟩ : ∃ x, x = (w.alloc (.cells #[.int .i64 0, .int .i64 0, .int .i64 0, .string ⟨#[]⟩, .slice none 0 0, .bool false] 25)).alloc (.cells #[.int .i64 kk, .int .i64 0, .int .i64 0, .string ⟨#[]⟩, .slice none 0 0, .bool false] 25) := ⟨_, rfl⟩
  rw [← hX3] at D3 ⊢
  obtain ⟨R, hR⟩ : ∃ x, x = w.heap.size := ⟨_, rfl⟩
  obtain ⟨E, hE⟩ : ∃ x, x = w.heap.size + 1 := ⟨_, rfl⟩
  rw [← hE, ← hR] at D3 ⊢
  clear hX3 hR hE hcell hbb
  have q0 := D3.out.ent.cell 0
  have f0 := D3.out.ent.frozen 0
  have q1 := D3.out.ent.cell 1
  have f1 := D3.out.ent.frozen 1
  have q2 := D3.out.ent.cell 2
  have f2 := D3.out.ent.frozen 2
  have q3 := D3.out.ent.cell 3
  have f3 := D3.out.ent.frozen 3
  have q4 := D3.out.ent.cell 4
  have f4 := D3.out.ent.frozen 4
  have q5 := D3.out.ent.cell 5
  have f5 := D3.out.ent.frozen 5
  simp at q0 q1 q2 q3 q4 q5
  have hkm := HKM.out
  refine (keyed_any kk).mono ?_
  rintro e w3' ⟨rfl, rfl⟩
  rw [show keyedF kk = false from decide_eq_false (by omega)]
  clear hkm
  go_wp2_with fail
  have hkm := HKM.out
  refine (stamped_any kk).mono ?_
  rintro e w3' ⟨rfl, rfl⟩
  rw [show stampedF kk = false from decide_eq_false (by omega)]
  clear hkm
  go_wp2_with fail
  have hkm := HKM.out
  refine (counted_any kk).mono ?_
  rintro e w3' ⟨rfl, rfl⟩
  rw [show countedF kk = false from decide_eq_false (by omega)]
  clear hkm
  go_wp2_with fail
  have hkm := HKM.out
  refine (valued_any kk).mono ?_
  rintro e w3' ⟨rfl, rfl⟩
  rw [show valuedF kk = false from decide_eq_false (by omega)]
  clear hkm
  by_cases hte : 1 = (b.length : Int)
  · have hnb : ((1 : Int) != (b.length : Int)) = false := by rw [bne_eq_false_iff_eq]; exact hte
    have HTE := Lib.hid hte
    clear hte
    go_wp2_with fail
    refine (rcheck_any (A := none) (c := 0) ⟨kk, 0, 0, ⟨#[]⟩, [], false⟩ (by show (0 : Nat) ≤ _; omega) (by show (0 : Nat) ≤ _; omega)).mono ?_
    rintro e w20 ⟨rfl, hb⟩
    have D20 := Lib.hid (D3.out.go hb)
    have hm : ¬ En.may ⟨kk, 0, 0, ⟨#[]⟩, [], false⟩ := may_x HKM.out
    rw [En.chk_no hm]
    have HNO := Lib.hid ((show ¬ ∃ y : En, y.may ∧ y.enc = b from by rw [HB0.out]; exact rdec_x HKX.out))
    clear hb hm q0 q1 q2 q3 q4 q5 f0 f1 f2 f3 f4 f5
    have z0 := D20.out.res.cell 0
    have g0 := D20.out.res.frozen 0
    have z1 := D20.out.res.cell 1
    have g1 := D20.out.res.frozen 1
    have z2 := D20.out.res.cell 2
    have g2 := D20.out.res.frozen 2
    have z3 := D20.out.res.cell 3
    have g3 := D20.out.res.frozen 3
    have z4 := D20.out.res.cell 4
    have g4 := D20.out.res.frozen 4
    have z5 := D20.out.res.cell 5
    have g5 := D20.out.res.frozen 5
    simp at z0 z1 z2 z3 z4 z5
    have KR3 := Lib.hid (D20.out.res.put6 (.int .i64 0) (.int .i64 0) (.int .i64 0) (.string ⟨#[]⟩) (.slice none 0 0) (.bool false))
    have B3 := Lib.hid (D20.out.bel.trans ((keeps_set6 w20 R (.int .i64 0) (.int .i64 0) (.int .i64 0) (.string ⟨#[]⟩) (.slice none 0 0) (.bool false)).below D20.out.bel.size (fun i hi => by rw [hi]; exact D20.out.o1)))
    go_wp2
    unfold set6 at KR3 B3
    have y0 := KR3.out.cell 0
    have y1 := KR3.out.cell 1
    have y2 := KR3.out.cell 2
    have y3 := KR3.out.cell 3
    have y4 := KR3.out.cell 4
    have y5 := KR3.out.cell 5
    simp only [List.getElem?_toArray, List.getElem?_cons_zero, List.getElem?_cons_succ] at y0 y1 y2 y3 y4 y5
    exact bodyPost_ret (v := .tuple #[.agg #[.int .i64 0, .int .i64 0, .int .i64 0, .string ⟨#[]⟩, .slice none 0 0, .bool false], .int .i64 100]) (by simp [results, Try.results23, go_sem, y0, y1, y2, y3, y4, y5]) rfl (.inr ⟨HNO.out, rfl, B3.out⟩)
  · have hnb : ((1 : Int) != (b.length : Int)) = true := by rw [bne_iff_ne]; exact hte
    have HNO := Lib.hid ((show ¬ ∃ y : En, y.may ∧ y.enc = b from by rw [HB0.out]; exact rdec_x HKX.out))
    clear hte q0 q1 q2 q3 q4 q5 f0 f1 f2 f3 f4 f5
    have z0 := D3.out.res.cell 0
    have g0 := D3.out.res.frozen 0
    have z1 := D3.out.res.cell 1
    have g1 := D3.out.res.frozen 1
    have z2 := D3.out.res.cell 2
    have g2 := D3.out.res.frozen 2
    have z3 := D3.out.res.cell 3
    have g3 := D3.out.res.frozen 3
    have z4 := D3.out.res.cell 4
    have g4 := D3.out.res.frozen 4
    have z5 := D3.out.res.cell 5
    have g5 := D3.out.res.frozen 5
    simp at z0 z1 z2 z3 z4 z5
    have KR3 := Lib.hid (D3.out.res.put6 (.int .i64 0) (.int .i64 0) (.int .i64 0) (.string ⟨#[]⟩) (.slice none 0 0) (.bool false))
    have B3 := Lib.hid (D3.out.bel.trans ((keeps_set6 X3 R (.int .i64 0) (.int .i64 0) (.int .i64 0) (.string ⟨#[]⟩) (.slice none 0 0) (.bool false)).below D3.out.bel.size (fun i hi => by rw [hi]; exact D3.out.o1)))
    go_wp2
    unfold set6 at KR3 B3
    have y0 := KR3.out.cell 0
    have y1 := KR3.out.cell 1
    have y2 := KR3.out.cell 2
    have y3 := KR3.out.cell 3
    have y4 := KR3.out.cell 4
    have y5 := KR3.out.cell 5
    simp only [List.getElem?_toArray, List.getElem?_cons_zero, List.getElem?_cons_succ] at y0 y1 y2 y3 y4 y5
    exact bodyPost_ret (v := .tuple #[.agg #[.int .i64 0, .int .i64 0, .int .i64 0, .string ⟨#[]⟩, .slice none 0 0, .bool false], .int .i64 100]) (by simp [results, Try.results23, go_sem, y0, y1, y2, y3, y4, y5]) rfl (.inr ⟨HNO.out, rfl, B3.out⟩)
set_option maxRecDepth 100000 in
set_option maxHeartbeats 6400000 in
theorem rdecnil_any {w : World} {A : Option Addr} {c : Nat} : Calls Try.prog 23 #[.slice A ([] : List UInt8).length c] w (DecPost w []) := by
  have D3 := Lib.hid (Blk.new w 25 #[.int .i64 0, .int .i64 0, .int .i64 0, .string ⟨#[]⟩, .slice none 0 0, .bool false])
  have B0 := Lib.hid ((Below.refl w.heap.size w).alloc (Nat.le_refl _) (.cells #[.int .i64 0, .int .i64 0, .int .i64 0, .string ⟨#[]⟩, .slice none 0 0, .bool false] 25))
  go_enter Try.func23, Try.ntmps23
  go_upto_region 1 with fail
  obtain ⟨X, hX⟩ : ∃ x, x = w.alloc (.cells #[.int .i64 0, .int .i64 0, .int .i64 0, .string ⟨#[]⟩, .slice none 0 0, .bool false] 25) := ⟨_, rfl⟩
  obtain ⟨R, hR⟩ : ∃ x, x = w.heap.size := ⟨_, rfl⟩
  have hR2 := Lib.hid hR.symm
  rw [← hX] at D3 B0
  rw [← hR] at D3
  rw [← hX, ← hR]
  have HNO := Lib.hid rdec_nil
  clear hX hR
  have z0 := D3.out.cell 0
  have g0 := D3.out.frozen 0
  have z1 := D3.out.cell 1
  have g1 := D3.out.frozen 1
  have z2 := D3.out.cell 2
  have g2 := D3.out.frozen 2
  have z3 := D3.out.cell 3
  have g3 := D3.out.frozen 3
  have z4 := D3.out.cell 4
  have g4 := D3.out.frozen 4
  have z5 := D3.out.cell 5
  have g5 := D3.out.frozen 5
  simp at z0 z1 z2 z3 z4 z5
  have KR3 := Lib.hid (D3.out.put6 (.int .i64 0) (.int .i64 0) (.int .i64 0) (.string ⟨#[]⟩) (.slice none 0 0) (.bool false))
  have B3 := Lib.hid (B0.out.trans ((keeps_set6 X R (.int .i64 0) (.int .i64 0) (.int .i64 0) (.string ⟨#[]⟩) (.slice none 0 0) (.bool false)).below B0.out.size (fun i hi => by rw [hi, ← hR2.out]; exact Nat.le_refl _)))
  go_wp2
  unfold set6 at KR3 B3
  have y0 := KR3.out.cell 0
  have y1 := KR3.out.cell 1
  have y2 := KR3.out.cell 2
  have y3 := KR3.out.cell 3
  have y4 := KR3.out.cell 4
  have y5 := KR3.out.cell 5
  simp only [List.getElem?_toArray, List.getElem?_cons_zero, List.getElem?_cons_succ] at y0 y1 y2 y3 y4 y5
  exact bodyPost_ret (v := .tuple #[.agg #[.int .i64 0, .int .i64 0, .int .i64 0, .string ⟨#[]⟩, .slice none 0 0, .bool false], .int .i64 100]) (by simp [results, Try.results23, go_sem, y0, y1, y2, y3, y4, y5]) rfl (.inr ⟨HNO.out, rfl, B3.out⟩)
theorem rdecode_any {w : World} {A : Option Addr} {c : Nat} {b : List UInt8} (hr : BReads w w.heap.size A b) (hl : b.length ≤ 140737488355328) (hc : b.length ≤ c) :
    Calls Try.prog 23 #[.slice A b.length c] w (DecPost w b) := by
  cases b with
  | nil => exact rdecnil_any
  | cons x r =>
    rcases (show x = 1 ∨ x = 2 ∨ x = 5 ∨ (x.toNat = 3 ∨ x.toNat = 4 ∨ x.toNat = 6) ∨ ¬ (1 ≤ x.toNat ∧ x.toNat ≤ 6) from by
      by_cases h1 : x.toNat = 1
      · exact .inl (UInt8.toNat_inj.1 h1)
      by_cases h2 : x.toNat = 2
      · exact .inr (.inl (UInt8.toNat_inj.1 h2))
      by_cases h5 : x.toNat = 5
      · exact .inr (.inr (.inl (UInt8.toNat_inj.1 h5)))
      omega) with rfl | rfl | rfl | h | h
    · exact rdec1_any hr hl hc rfl
    · exact rdec2_any hr hl hc rfl
    · exact rdec5_any hr hl hc rfl
    · exact rdecm_any hr hl hc rfl h
    · exact rdecx_any hr hl hc rfl h
end Go.Proofs.Ytnnladfndmdapaa
