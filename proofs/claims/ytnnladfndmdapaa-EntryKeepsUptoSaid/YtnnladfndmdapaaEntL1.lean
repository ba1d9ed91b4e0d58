/- EntryNames, EntryForms: the walks. -/
import Derived.Test.YtnnladfndmdapaaEntK
import Derived.Test.YtnnladfndmdapaaEnt11
import Derived.Test.YtnnladfndmdapaaEnt12
import Derived.Test.YtnnladfndmdapaaEnt5
namespace Go.Proofs.Ytnnladfndmdapaa
open Go.RowKit

theorem entryNames_walk {w : World} : Calls Try.prog 3 #[] w (True_ w) := by
  go_enter Try.func3, Try.ntmps3
  go_wp2_with fail
  refine awake_any.mono ?_
  rintro e w1 ⟨rfl, hb⟩
  have HB := Lib.hid hb
  clear hb
  go_wp2
  go_ret
  exact ⟨rfl, HB.out⟩
/-- What Encode answers: the bytes, or none. -/
theorem encPost_named {w w' : World} {x : En} {e : Ending} (h : EncPost w x e w') : ∃ (L : List UInt8) (A : Option Addr) (c : Nat) (f : Int), e = .returned (.tuple #[.slice A L.length c, .int .i64 f]) ∧ Hid (f = x.chk) ∧ Hid (L = if f = 0 then x.enc else []) ∧
    Hid (BOwns w' w.heap.size (.slice A L.length c) L) ∧ Hid (Below w.heap.size w w') := by
  rcases h with ⟨hm, v', rfl, ho, hb⟩ | ⟨hm, rfl, hb⟩
  · obtain ⟨A, c, rfl, _, _⟩ := BOwns.slice ho
    exact ⟨_, A, c, 0, rfl, Lib.hid (En.chk_ok hm).symm, Lib.hid (if_pos rfl).symm, Lib.hid ho, Lib.hid hb⟩
  · exact ⟨[], none, 0, 100, rfl, Lib.hid (En.chk_no hm).symm, Lib.hid (if_neg (by decide)).symm, Lib.hid (BOwns.nil _ _), Lib.hid hb⟩
set_option maxRecDepth 100000 in
set_option maxHeartbeats 3200000 in
theorem entryForms_walk {w : World} {A : Option Addr} {c : Nat} (x : En) (hr : BReads w w.heap.size A x.value) (hks : x.key.size ≤ 140737488355328) (hvl : x.value.length ≤ 140737488355328) :
    Calls Try.prog 4 #[.agg (x.cells A c)] w (True_ w) := by
  have hcl := fun (w' : World) (hw : BReads w' w'.heap.size A x.value) => clone_any (w := w') (c := c) x hw hvl
  have HRV := Lib.hid hr
  obtain ⟨k, s, n, key, p, d⟩ := x
  obtain ⟨X, hX⟩ : ∃ X : En, X = ⟨k, s, n, key, p, d⟩ := ⟨_, rfl⟩
  have HX := Lib.hid hX
  have B1 := Lib.hid ((Below.refl w.heap.size w).alloc (Nat.le_refl _) (.cells #[.int .i64 k, .int .i64 s, .int .i64 n, .string key, .slice A p.length c, .bool d] 25))
  have K1 := Lib.hid (Blk.new w 25 #[.int .i64 k, .int .i64 s, .int .i64 n, .string key, .slice A p.length c, .bool d])
  unfold En.cells
  simp only at hks hvl ⊢
  have HCL := Lib.hid hcl
  clear hr hX hcl
  go_enter Try.func4, Try.ntmps4
  go_wp2_with fail
  obtain ⟨w1, hw1⟩ : ∃ x, x = w.alloc (.cells #[.int .i64 k, .int .i64 s, .int .i64 n, .string key, .slice A p.length c, .bool d] 25) := ⟨_, rfl⟩
  obtain ⟨T, hT⟩ : ∃ x, x = w.heap.size := ⟨_, rfl⟩
  rw [← hw1] at B1 K1 ⊢
  rw [← hT] at K1 ⊢
  have RV := Lib.hid ((HRV.out.below B1.out).more B1.out.size)
  clear hw1 hT HRV
  refine (HCL.out w1 RV.out).mono ?_
  rintro e w2 ⟨A2, c2, rfl, ho, hb⟩
  have O2 := Lib.hid ho.reads
  have B2 := Lib.hid (B1.out.trans (hb.mono B1.out.size))
  have K2 := Lib.hid (K1.out.below' hb)
  have RV2 := Lib.hid ((RV.out.below hb).more hb.size)
  clear ho hb B1 K1 RV
  go_wp2_with fail
  refine (encode_any (A := A2) (c := c2) ⟨k, s, n, key, p, d⟩ O2.out hks hvl).mono ?_
  rintro e w3 h
  obtain ⟨L3, A3, c3, f3, rfl, HF3, HL3, O3, hb⟩ := encPost_named h
  have B3 := Lib.hid (B2.out.trans (hb.out.mono B2.out.size))
  have K3 := Lib.hid (K2.out.below' hb.out)
  have RV3 := Lib.hid ((RV2.out.below hb.out).more hb.out.size)
  clear h hb B2 K2 RV2 O2
  have q0 := K3.out.cell 0
  have q1 := K3.out.cell 1
  have q2 := K3.out.cell 2
  have q3 := K3.out.cell 3
  have q4 := K3.out.cell 4
  have q5 := K3.out.cell 5
  simp at q0 q1 q2 q3 q4 q5
  go_wp2_with fail
  refine (rencode_any (A := A) (c := c) ⟨k, s, n, key, p, d⟩ RV3.out hks hvl).mono ?_
  rintro e w4 h
  obtain ⟨L4, A4, c4, f4, rfl, HF4, HL4, O4, hb⟩ := encPost_named h
  have hf : f4 = f3 := HF4.out.trans HF3.out.symm
  subst hf
  have hl : L4 = L3 := HL4.out.trans HL3.out.symm
  subst hl
  have B4 := Lib.hid (B3.out.trans (hb.out.mono B3.out.size))
  have K4 := Lib.hid (K3.out.below' hb.out)
  have RV4 := Lib.hid ((RV3.out.below hb.out).more hb.out.size)
  have O34 := Lib.hid (O3.out.below hb.out)
  clear h hb B3 K3 RV3 O3 HF4 HL4 q0 q1 q2 q3 q4 q5
  obtain ⟨m, hm⟩ : ∃ m, m = L4.length := ⟨_, rfl⟩
  obtain ⟨tx, htx⟩ : ∃ t : ByteArray, t = ⟨L4.toArray⟩ := ⟨_, rfl⟩
  obtain ⟨ck, hck⟩ : ∃ ck, ck = En.chk ⟨k, s, n, key, p, d⟩ := ⟨_, rfl⟩
  have HM := Lib.hid hm
  have HTX := Lib.hid htx
  have HCK := Lib.hid hck
  have P4 := O34
  rw [← hm]
  clear hm htx hck O34
  go_upto_region 3 with fail
  have BW := Lib.hid (show Below w4.heap.size w4 w4.drew from (Below.refl _ _).drew)
  have KW := Lib.hid (K4.out.below' BW.out)
  have PW := Lib.hid (P4.out.below BW.out)
  have OW := Lib.hid (O4.out.below BW.out)
  have BW2 := Lib.hid (B4.out.trans (BW.out.mono B4.out.size))
  have RVW := Lib.hid ((RV4.out.below BW.out).more BW.out.size)
  have y0 := KW.out.cell 0
  have y1 := KW.out.cell 1
  have y2 := KW.out.cell 2
  have y3 := KW.out.cell 3
  have y4 := KW.out.cell 4
  have y5 := KW.out.cell 5
  simp only [List.getElem?_toArray, List.getElem?_cons_zero, List.getElem?_cons_succ] at y0 y1 y2 y3 y4 y5
  have y6 := conv_text PW.out.reads c3
  have y7 := conv_text OW.out.reads c4
  rw [← HM.out, ← HTX.out] at y6 y7
  clear BW B4 K4 RV4 P4 O4
  go_region_held3 (fun w' => w'.cell? ⟨T, 0, none⟩ = some (.int .i64 k) ∧ w'.cell? ⟨T, 1, none⟩ = some (.int .i64 s) ∧ w'.cell? ⟨T, 2, none⟩ = some (.int .i64 n) ∧ w'.cell? ⟨T, 3, none⟩ = some (.string key) ∧ w'.cell? ⟨T, 4, none⟩ = some (.slice A p.length c) ∧ w'.cell? ⟨T, 5, none⟩ = some (.bool d) ∧ (convert 23 9 (.slice A3 m c3)).run Try.prog w' = .ok (.string tx) w' ∧ (convert 23 9 (.slice A4 m c4)).run Try.prog w' = .ok (.string tx) w') (first | (with_reducible exact ⟨y0, y1, y2, y3, y4, y5, y6, y7⟩) | (with_reducible exact ⟨x0, x1, x2, x3, x4, x5, x6, x7⟩) | (with_reducible exact ⟨z0, z1, z2, z3, z4, z5, z6, z7⟩) | (with_reducible exact ⟨u0, u1, u2, u3, u4, u5, u6, u7⟩) | (with_reducible exact ⟨v0, v1, v2, v3, v4, v5, v6, v7⟩) | go_keep) (first | (go_at_call 18; refine (HCL.out w4.drew RVW.out).mono ?_; rintro e w5 ⟨A5, c5, rfl, ho, hb⟩; have OC5 := Lib.hid ho.reads; clear ho; have HH := Lib.hid hb; have K5 := Lib.hid (KW.out.below' HH.out); have P5 := Lib.hid (PW.out.below HH.out); have O5 := Lib.hid (OW.out.below HH.out); have B5 := Lib.hid (BW2.out.trans (HH.out.mono BW2.out.size)); have RV5 := Lib.hid ((RVW.out.below HH.out).more HH.out.size); have x0 := K5.out.cell 0; have x1 := K5.out.cell 1; have x2 := K5.out.cell 2; have x3 := K5.out.cell 3; have x4 := K5.out.cell 4; have x5 := K5.out.cell 5; simp only [List.getElem?_toArray, List.getElem?_cons_zero, List.getElem?_cons_succ] at x0 x1 x2 x3 x4 x5; have x6 := conv_text P5.out.reads c3; have x7 := conv_text O5.out.reads c4; rw [← HM.out, ← HTX.out] at x6 x7; clear hb HH) | (go_at_call 20; refine (check_any (A := A5) (c := c5) ⟨k, s, n, key, p, d⟩ hks hvl).mono ?_; rintro e w6 ⟨he, hb⟩; rw [← HCK.out] at he; subst he; have HH := Lib.hid hb; have K6 := Lib.hid (K5.out.below' HH.out); have P6 := Lib.hid (P5.out.below HH.out); have O6 := Lib.hid (O5.out.below HH.out); have B6 := Lib.hid (B5.out.trans (HH.out.mono B5.out.size)); have RV6 := Lib.hid ((RV5.out.below HH.out).more HH.out.size); have z0 := K6.out.cell 0; have z1 := K6.out.cell 1; have z2 := K6.out.cell 2; have z3 := K6.out.cell 3; have z4 := K6.out.cell 4; have z5 := K6.out.cell 5; simp only [List.getElem?_toArray, List.getElem?_cons_zero, List.getElem?_cons_succ] at z0 z1 z2 z3 z4 z5; have z6 := conv_text P6.out.reads c3; have z7 := conv_text O6.out.reads c4; rw [← HM.out, ← HTX.out] at z6 z7; clear hb HH) | (go_at_call 21; refine (rcheck_any (A := A) (c := c) ⟨k, s, n, key, p, d⟩ hks hvl).mono ?_; rintro e w7 ⟨he, hb⟩; rw [← HCK.out] at he; subst he; have HH := Lib.hid hb; have K7 := Lib.hid (K6.out.below' HH.out); have P7 := Lib.hid (P6.out.below HH.out); have O7 := Lib.hid (O6.out.below HH.out); have B7 := Lib.hid (B6.out.trans (HH.out.mono B6.out.size)); have RV7 := Lib.hid ((RV6.out.below HH.out).more HH.out.size); have u0 := K7.out.cell 0; have u1 := K7.out.cell 1; have u2 := K7.out.cell 2; have u3 := K7.out.cell 3; have u4 := K7.out.cell 4; have u5 := K7.out.cell 5; simp only [List.getElem?_toArray, List.getElem?_cons_zero, List.getElem?_cons_succ] at u0 u1 u2 u3 u4 u5; have u6 := conv_text P7.out.reads c3; have u7 := conv_text O7.out.reads c4; rw [← HM.out, ← HTX.out] at u6 u7; clear hb HH) | (go_at_call 16; refine (awake_any).mono ?_; rintro e w8 ⟨rfl, hb⟩; have HH := Lib.hid hb; have K8 := Lib.hid (K7.out.below' HH.out); have P8 := Lib.hid (P7.out.below HH.out); have O8 := Lib.hid (O7.out.below HH.out); have B8 := Lib.hid (B7.out.trans (HH.out.mono B7.out.size)); have RV8 := Lib.hid ((RV7.out.below HH.out).more HH.out.size); have v0 := K8.out.cell 0; have v1 := K8.out.cell 1; have v2 := K8.out.cell 2; have v3 := K8.out.cell 3; have v4 := K8.out.cell 4; have v5 := K8.out.cell 5; simp only [List.getElem?_toArray, List.getElem?_cons_zero, List.getElem?_cons_succ] at v0 v1 v2 v3 v4 v5; have v6 := conv_text P8.out.reads c3; have v7 := conv_text O8.out.reads c4; rw [← HM.out, ← HTX.out] at v6 v7; clear hb HH))
  go_wp2
  go_ret
  exact ⟨rfl, B8.out⟩
end Go.Proofs.Ytnnladfndmdapaa
