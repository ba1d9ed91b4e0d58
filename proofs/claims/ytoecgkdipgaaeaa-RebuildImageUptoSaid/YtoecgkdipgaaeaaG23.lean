/- Contracts and plain laws that this claim leans on, laid together: Rfx, Alk. -/
import Derived.Test.YtoecgkdipgaaeaaG22
import Derived.Test.YtoecgkdipgaaeaaG18
import Derived.Test.YtoecgkdipgaaeaaG17
set_option linter.all false
set_option linter.unusedVariables false
set_option linter.unusedSimpArgs false
set_option linter.unnecessarySimpa false
/- Laws of layer 20: rebuildFixed; are two lists alike. -/
namespace Go.Proofs.Ytoecgkdipgaaeaa
open Go.RowKit

def rxA : En := ⟨1, 0, 0, ⟨#[97]⟩, [7], false⟩
def rxB : En := ⟨3, 1, 1, ⟨#[]⟩, [], false⟩
def rxC : En := ⟨1, 0, 0, ⟨#[98]⟩, [], false⟩
theorem rx_may : ∀ e ∈ [rxA, rxB, rxC], e.may := fun e he => by
  simp only [List.mem_cons, List.not_mem_nil, or_false] at he
  rcases he with rfl | rfl | rfl
  · unfold rxA; rw [may_1]; exact ⟨by decide, by decide, rfl, rfl, rfl, by decide⟩
  · unfold rxB; rw [may_m (by decide)]; exact ⟨by decide, by decide, by decide, by decide, by decide, rfl, rfl⟩
  · unfold rxC; rw [may_1]; exact ⟨by decide, by decide, rfl, rfl, rfl, by decide⟩
def rxS : PS := [([97], [⟨1, [7], false⟩])]
theorem rx_comG : comG 1 [] [rxA, rxB, rxC] = some [rxA] := by
  have h1 : rxA.chk = 0 := En.chk_ok (rx_may _ (List.mem_cons_self ..))
  have h2 : rxB.chk = 0 := En.chk_ok (rx_may _ (List.mem_cons_of_mem _ (List.mem_cons_self ..)))
  unfold comG
  rw [if_neg (by rw [h1]; decide), if_pos (.inl rfl), if_neg (by decide)]
  unfold comG
  rw [if_neg (by rw [h2]; decide), if_neg (by decide), if_pos (show rxB.kind = 3 from rfl), if_neg (by decide)]
  rfl
theorem rx_read : GrpEnd [rxA, rxB, rxC] 0 rxS 1 2 := by
  have h : grpF [] 0 0 ([rxA, rxB, rxC].drop 0) = some (rxS, 1, 2) := by
    rw [List.drop_zero, grpF_cons, if_neg (by decide), show IntKind.i64.wrap (0 + 1) = 1 from by decide, rx_comG]
    rfl
  have r := Grp.step (.zero (l := [rxA, rxB, rxC]) (start := 0)) h
  refine ⟨r, ?_⟩
  have h3 : rxC.chk = 0 := En.chk_ok (rx_may _ (List.mem_cons_of_mem _ (List.mem_cons_of_mem _ (List.mem_cons_self ..))))
  show grpF rxS 1 _ [rxC] = none
  rw [grpF_cons, if_neg (by decide)]
  unfold comG
  rw [if_neg (by rw [h3]; decide), if_pos (.inl rfl), if_neg (by decide)]
  rfl
theorem rx_ok : PsOk rxS 1 := rx_read.1.ok.1
theorem rx_img : imgF rxS 4 = [⟨4, 4, 1, ⟨#[]⟩, [], false⟩, ⟨5, 1, 0, ⟨#[97]⟩, [7], false⟩, ⟨6, 4, 1, ⟨#[]⟩, [], false⟩] := rfl
set_option maxRecDepth 100000 in
set_option maxHeartbeats 6400000 in
theorem rebuildFixed_any {w : World} : Calls Try.prog 23 #[] w (True_ w) := by
  obtain ⟨w1, hw1⟩ : ∃ x, x = w.alloc (.cells #[.int .u8 7] 5) := ⟨_, rfl⟩
  obtain ⟨w2, hw2⟩ : ∃ x, x = w1.alloc (.cells #[.int .i64 1, .int .i64 0, .int .i64 0, .string ⟨#[97]⟩, .slice (some ⟨w.heap.size, 0, none⟩) 1 1, .bool false, .int .i64 3, .int .i64 1, .int .i64 1, .string ⟨#[]⟩, .slice none 0 0, .bool false, .int .i64 1, .int .i64 0, .int .i64 0, .string ⟨#[98]⟩, .slice none 0 0, .bool false] 31) := ⟨_, rfl⟩
  have HW1 := Lib.hid hw1
  have HW2 := Lib.hid hw2
  have T1 : Turn (Item.all []) w (Item.all [Item.row (.slice (some ⟨w.heap.size, 0, none⟩) 1 1) [7]]) w1 := by
    rw [hw1]
    exact (Turn.none_ (w := w)).more (y := Item.row (.slice (some ⟨w.heap.size, 0, none⟩) 1 1) [7]) ((Below.refl _ _).alloc (Nat.le_refl _) _) (row_new rfl (by decide)) (fun k hk => own_new hk)
  have hs1 : w.heap.size + 1 = w1.heap.size := by rw [hw1]; simp
  have T2 : Turn (Item.all []) w (Item.all [Item.rowT 31 6 (.slice (some ⟨w1.heap.size, 0, none⟩) 3 3) 3 (toldCells [⟨rxA, some ⟨w.heap.size, 0, none⟩, 1⟩, ⟨rxB, none, 0⟩, ⟨rxC, none, 0⟩]), Item.row (.slice (some ⟨w.heap.size, 0, none⟩) 1 1) [7]]) w2 := by
    rw [hw2]
    exact T1.more (y := Item.rowT 31 6 (.slice (some ⟨w1.heap.size, 0, none⟩) 3 3) 3 _) ((Below.refl _ _).alloc (Nat.le_refl _) _) (row_new rfl (by decide)) (fun k hk => own_new hk)
  have HS := Lib.hid (sl_told (ts := [⟨rxA, some ⟨w.heap.size, 0, none⟩, 1⟩, ⟨rxB, none, 0⟩, ⟨rxC, none, 0⟩]) (T2.get (i := 0) rfl) rfl (fun i hi => by
    simp only [toldRows, List.map_cons, List.map_nil, List.mem_cons, List.not_mem_nil, or_false] at hi
    rcases hi with rfl | rfl | rfl
    · exact T2.get (i := 1) rfl
    · exact BOwns.nil _ _
    · exact BOwns.nil _ _) rx_may)
  have HB2 := Lib.hid T2.free
  have HRD := Lib.hid (show Calls Try.prog 26 #[.slice (some ⟨w1.heap.size, 0, none⟩) 3 3, .int .i64 0] w2 (RbReadPost [rxA, rxB, rxC] 0 w2) from rbRead_any (l := [rxA, rxB, rxC]) (c := 3) HS.out (Nat.le_refl _) (by decide) (by decide) (fun e he => by
    simp only [List.mem_cons, List.not_mem_nil, or_false] at he
    rcases he with rfl | rfl | rfl <;> exact ⟨by decide, by decide⟩))
  clear hw1 hw2 T1 T2 HS
  go_enter Try.func23, Try.ntmps23
  go_upto_region 2 with fail
  rw [← HW1.out, ← HW2.out]
  clear HW1 HW2 hs1
  go_wp2_with fail
  refine HRD.out.mono ?_
  rintro e w3 ⟨S, now, n, hg, s, rfl, hok, hv, t⟩
  obtain ⟨rfl, rfl, rfl⟩ := hg.one rx_read
  have HST := Lib.hid (And.intro hok hv)
  have T3 := Lib.hid t
  clear hg HRD hok t
  have HPS := Lib.hid (show PsOk s.view 1 from by rw [hv]; exact rx_ok)
  have HG1 := Lib.hid (get_any (w := w3) (key := ⟨#[97]⟩) (st := 1) (T3.out.get (i := 0) rfl) HST.out.1 (by decide) (fun p hp => (HPS.out.each p hp).2.1) (by decide))
  rw [hv, show getF rxS (ByteArray.mk #[97]).data.toList 1 = some [7] from rfl] at HG1
  clear hv
  go_wp2_with fail
  refine HG1.out.mono ?_
  rintro e w4 (⟨h1, _, _⟩ | ⟨l1, A1, c1, h1, rfl, ho1, hb1⟩)
  · cases h1
  injection h1 with h1
  subst h1
  have T4 := Lib.hid ((T3.out.add (y := Item.row (.slice A1 1 c1) [7]) hb1 (owns_less ho1 (Nat.zero_le _)) (fun k hk => (ho1.lt hk).1)))
  clear ho1 hb1 HG1 T3
  have HG2 := Lib.hid (get_any (w := w4) (key := ⟨#[98]⟩) (st := 9) (T4.out.get (i := 0) rfl) HST.out.1 (by decide) (fun p hp => (HPS.out.each p hp).2.1) (by decide))
  rw [HST.out.2, show getF rxS (ByteArray.mk #[98]).data.toList 9 = none from rfl] at HG2
  go_wp2_with fail
  refine HG2.out.mono ?_
  rintro e w5 (⟨_, rfl, hb2⟩ | ⟨l1, A2, c2, h1, _, _, _⟩)
  rotate_left
  · cases h1
  have T5 := Lib.hid (T4.out.go hb2)
  clear hb2 HG2 T4
  have HIM := Lib.hid (image_any (w := w5) (st := 4) (T5.out.get (i := 0) rfl) HST.out.1 HPS.out (by decide) (by rw [HST.out.2]; decide))
  rw [HST.out.2] at HIM
  go_wp2_with fail
  refine HIM.out.mono ?_
  rintro e w6 ⟨ts, A3, n3, c3, hts, hn3, rfl, t⟩
  rw [rx_img] at hts hn3
  have hn : n3 = 3 := hn3
  subst hn
  have T6 := Lib.hid (T5.out.join t)
  have HS6 := Lib.hid (show kEn.Sl w6 w6.heap.size A3 _ from hts ▸ sl_told (t.get (i := 0) rfl) (by rw [← List.length_map (f := Told.x), hts]; rfl) (fun i hi => Item.all_get t.p (List.mem_cons_of_mem _ hi)) (fun e he => by
    rw [hts] at he
    simp only [List.mem_cons, List.not_mem_nil, or_false] at he
    rcases he with rfl | rfl | rfl
    · rw [may_m (by decide)]; exact ⟨by decide, by decide, by decide, by decide, by decide, rfl, rfl⟩
    · rw [may_5]; exact ⟨by decide, by decide, by decide, by decide, rfl, by decide, by decide⟩
    · rw [may_m (by decide)]; exact ⟨by decide, by decide, by decide, by decide, by decide, rfl, rfl⟩))
  obtain ⟨b0, o0, Ax, cx, rfl, hb0, k1, s00, s01, k2, k3, k4, k5, k6⟩ := en_at HS6.out (i := 0) (by decide)
  clear k1 k2 k3 k4 k5 k6
  obtain ⟨b1, o1, Ay, cy, e1, k1, k2, k3, k4, k5, s13, k6, k7, k8⟩ := en_at HS6.out (i := 1) (by decide)
  injection e1 with e1
  injection e1 with e1 e2
  subst e1; subst e2
  clear k1 k2 k3 k4 k5 k6 k7 k8
  obtain ⟨b2, o2, Az, cz, e2, k1, k2, s20, k3, k4, k5, k6, k7, k8⟩ := en_at HS6.out (i := 2) (by decide)
  injection e2 with e2
  injection e2 with e2 e3
  subst e2; subst e3
  obtain ⟨Ao, co, eo, eol, ho⟩ := BOwns.slice (T6.out.get (i := 1) rfl : BOwns w6 0 (.slice A1 1 c1) [7])
  injection eo with eo1 eo3 eo2
  subst eo1; subst eo2
  clear eo3 eol
  obtain ⟨bb, ob, hA1, hbb, y0⟩ := ho.at_ (k := 0) (by decide)
  subst hA1
  have HR := Lib.hid (show ∀ W, Below w6.heap.size w6 W → True_ w (.returned (.bool true)) W from fun W hb => ⟨rfl, (T6.out.go hb).free |> fun h => HB2.out.trans (h.mono HB2.out.size)⟩)
  clear hts hn3 T5 HIM t HS6 ho T6
  have p00 : w6.cell? ⟨b0, o0, none⟩ = some (.int .i64 4) := s00
  have p01 : w6.cell? ⟨b0, o0 + 1, none⟩ = some (.int .i64 4) := s01
  have p13 : w6.cell? ⟨b0, o0 + 6 + 3, none⟩ = some (.string ⟨#[97]⟩) := s13
  have p20 : w6.cell? ⟨b0, o0 + 12, none⟩ = some (.int .i64 6) := s20
  have p30 : w6.cell? ⟨bb, ob, none⟩ = some (.int .u8 7) := y0
  clear s00 s01 s13 s20 y0 k1 k2 k3 k4 k5 k6 k7 k8
  go_wp2
  go_ret
  exact HR.out _ (Below.refl _ _)
end Go.Proofs.Ytoecgkdipgaaeaa
/- Laws of layer 20: are two lists alike. -/
namespace Go.Proofs.Ytoecgkdipgaaeaa
open Go.RowKit

set_option maxRecDepth 100000 in
set_option maxHeartbeats 3200000 in
theorem entriesAlike_any {w : World} {A A' : Option Addr} {c c' : Nat} {l : List En} (h : kEn.Sl w w.heap.size A l) (h' : kEn.Sl w w.heap.size A' l) (hl : l.length ≤ 140737488355328) : 
    Calls Try.prog 32 #[.slice A l.length c, .slice A' l.length c'] w (True_ w) := by
  have H := Lib.hid h
  have H' := Lib.hid h'
  clear h h'
  go_enter Try.func32, Try.ntmps32
  go_wp2
  go_loopw [13] (fun t wr => ∃ (K : Nat), t = .int .i64 K ∧ K ≤ l.length ∧ Hid (Below w.heap.size w wr)) (fun t _ => l.length - (intOf t).toNat)
  case atStart => exact ⟨0, rfl, by omega, Lib.hid (Below.refl _ _)⟩
  case round =>
    obtain ⟨K, rfl, hK, hB⟩ := hrel
    by_cases hlt : (K : Int) < (l.length : Int)
    · have hKN : K < l.length := by omega
      obtain ⟨bb, off, Av, cv, rfl, hbb, hints, s0, s1, s2, s3, s4, s5, hval⟩ := en_at (H.out.below hB.out) hKN
      obtain ⟨bb', off', Av', cv', rfl, hbb', hints', s0', s1', s2', s3', s4', s5', hval'⟩ := en_at (H'.out.below hB.out) hKN
      have hsz := hB.out.size
      obtain ⟨x, hx⟩ : ∃ x, x = l[K] := ⟨_, rfl⟩
      rw [← hx] at s0 s1 s2 s3 s4 s5 hval s0' s1' s2' s3' s4' s5' hval'
      have HV := Lib.hid ((hval.below (Below.refl _ _).drew).more hsz)
      have HV' := Lib.hid ((hval'.below (Below.refl _ _).drew).more hsz)
      obtain ⟨k, s, n, key, v, dd⟩ := x
      simp only at s0 s1 s2 s3 s4 s5 s0' s1' s2' s3' s4' s5'
      have hKi : K + 1 ≤ l.length := by omega
      clear hx hval hval' hints hints'
      have hbr : bb < wr.drew.heap.size := Nat.lt_of_lt_of_le hbb hsz
      have hbr' : bb' < wr.drew.heap.size := Nat.lt_of_lt_of_le hbb' hsz
      go_wp2_with fail
      go_region_held3 (fun w' => w'.cell? ⟨bb, off + K * 6, none⟩ = some (.int .i64 k) ∧ w'.cell? ⟨bb, off + K * 6 + 1, none⟩ = some (.int .i64 s) ∧ w'.cell? ⟨bb, off + K * 6 + 2, none⟩ = some (.int .i64 n) ∧ w'.cell? ⟨bb, off + K * 6 + 3, none⟩ = some (.string key) ∧ w'.cell? ⟨bb, off + K * 6 + 4, none⟩ = some (.slice Av v.length cv) ∧ w'.cell? ⟨bb, off + K * 6 + 5, none⟩ = some (.bool dd) ∧ w'.cell? ⟨bb', off' + K * 6, none⟩ = some (.int .i64 k) ∧ w'.cell? ⟨bb', off' + K * 6 + 1, none⟩ = some (.int .i64 s) ∧ w'.cell? ⟨bb', off' + K * 6 + 2, none⟩ = some (.int .i64 n) ∧ w'.cell? ⟨bb', off' + K * 6 + 3, none⟩ = some (.string key) ∧ w'.cell? ⟨bb', off' + K * 6 + 4, none⟩ = some (.slice Av' v.length cv') ∧ w'.cell? ⟨bb', off' + K * 6 + 5, none⟩ = some (.bool dd)) (first | (with_reducible exact ⟨s0, s1, s2, s3, s4, s5, s0', s1', s2', s3', s4', s5'⟩) | (with_reducible exact ⟨z0, z1, z2, z3, z4, z5, z0b, z1b, z2b, z3b, z4b, z5b⟩) | go_keep) ((go_at_call 42; refine (same_any (A := Av) (A' := Av') (c := cv) (c' := cv') ⟨k, s, n, key, v, dd⟩ HV.out HV'.out).mono ?_; rintro e w2 ⟨rfl, hb⟩; have HB := Lib.hid (hB.out.trans (((Below.refl wr.heap.size wr).drew.trans hb).mono hsz)); have z0 := (hb.cell (p := ⟨bb, off + K * 6, none⟩) hbr).trans s0; have z1 := (hb.cell (p := ⟨bb, off + K * 6 + 1, none⟩) hbr).trans s1; have z2 := (hb.cell (p := ⟨bb, off + K * 6 + 2, none⟩) hbr).trans s2; have z3 := (hb.cell (p := ⟨bb, off + K * 6 + 3, none⟩) hbr).trans s3; have z4 := (hb.cell (p := ⟨bb, off + K * 6 + 4, none⟩) hbr).trans s4; have z5 := (hb.cell (p := ⟨bb, off + K * 6 + 5, none⟩) hbr).trans s5; have z0b := (hb.cell (p := ⟨bb', off' + K * 6, none⟩) hbr').trans s0'; have z1b := (hb.cell (p := ⟨bb', off' + K * 6 + 1, none⟩) hbr').trans s1'; have z2b := (hb.cell (p := ⟨bb', off' + K * 6 + 2, none⟩) hbr').trans s2'; have z3b := (hb.cell (p := ⟨bb', off' + K * 6 + 3, none⟩) hbr').trans s3'; have z4b := (hb.cell (p := ⟨bb', off' + K * 6 + 4, none⟩) hbr').trans s4'; have z5b := (hb.cell (p := ⟨bb', off' + K * 6 + 5, none⟩) hbr').trans s5'; clear hb))
      go_wp2
      exact ⟨⟨K + 1, by go_num, hKi, HB⟩, by simp [intOf]; omega⟩
    · obtain rfl : K = l.length := by omega
      go_wp2
      go_ret
      exact ⟨rfl, hB.out⟩
set_option maxRecDepth 100000 in
set_option maxHeartbeats 3200000 in
theorem alike_any {w : World} {A A' : Option Addr} {c c' : Nat} {l : List Vn} (h : kVn.Sl w w.heap.size A l) (h' : kVn.Sl w w.heap.size A' l) (hl : l.length ≤ 140737488355328) : 
    Calls Try.prog 27 #[.slice A l.length c, .slice A' l.length c'] w (True_ w) := by
  have H := Lib.hid h
  have H' := Lib.hid h'
  clear h h'
  go_enter Try.func27, Try.ntmps27
  go_wp2
  go_loopw [13] (fun t wr => ∃ (K : Nat), t = .int .i64 K ∧ K ≤ l.length ∧ Hid (Below w.heap.size w wr)) (fun t _ => l.length - (intOf t).toNat)
  case atStart => exact ⟨0, rfl, by omega, Lib.hid (Below.refl _ _)⟩
  case round =>
    obtain ⟨K, rfl, hK, hB⟩ := hrel
    by_cases hlt : (K : Int) < (l.length : Int)
    · have hKN : K < l.length := by omega
      obtain ⟨bb, off, Av, cv, rfl, hbb, hints, s0, s1, s2, s3, hval, hcap⟩ := vn_at (H.out.below hB.out) hKN
      obtain ⟨bb', off', Av', cv', rfl, hbb', hints', s0', s1', s2', s3', hval', hcap'⟩ := vn_at (H'.out.below hB.out) hKN
      have hsz := hB.out.size
      obtain ⟨x, hx⟩ : ∃ x, x = l[K] := ⟨_, rfl⟩
      rw [← hx] at s0 s1 s2 s3 hval s0' s1' s2' s3' hval'
      have HV := Lib.hid ((hval.below (Below.refl _ _).drew).more hsz)
      have HV' := Lib.hid ((hval'.below (Below.refl _ _).drew).more hsz)
      obtain ⟨key, s, v, dd⟩ := x
      simp only at s0 s1 s2 s3 s0' s1' s2' s3'
      have hKi : K + 1 ≤ l.length := by omega
      clear hx hval hval' hints hints' hcap hcap'
      have hbr : bb < wr.drew.heap.size := Nat.lt_of_lt_of_le hbb hsz
      have hbr' : bb' < wr.drew.heap.size := Nat.lt_of_lt_of_le hbb' hsz
      go_wp2_with fail
      go_region_held3 (fun w' => w'.cell? ⟨bb, off + K * 4, none⟩ = some (.string key) ∧ w'.cell? ⟨bb, off + K * 4 + 1, none⟩ = some (.int .i64 s) ∧ w'.cell? ⟨bb, off + K * 4 + 2, none⟩ = some (.slice Av v.length cv) ∧ w'.cell? ⟨bb, off + K * 4 + 3, none⟩ = some (.bool dd) ∧ w'.cell? ⟨bb', off' + K * 4, none⟩ = some (.string key) ∧ w'.cell? ⟨bb', off' + K * 4 + 1, none⟩ = some (.int .i64 s) ∧ w'.cell? ⟨bb', off' + K * 4 + 2, none⟩ = some (.slice Av' v.length cv') ∧ w'.cell? ⟨bb', off' + K * 4 + 3, none⟩ = some (.bool dd)) (first | (with_reducible exact ⟨s0, s1, s2, s3, s0', s1', s2', s3'⟩) | (with_reducible exact ⟨z0, z1, z2, z3, z0b, z1b, z2b, z3b⟩) | go_keep) ((go_at_call 20; refine (sameVersion_any (A := Av) (A' := Av') (c := cv) (c' := cv') ⟨key, s, v, dd⟩ HV.out HV'.out).mono ?_; rintro e w2 ⟨rfl, hb⟩; have HB := Lib.hid (hB.out.trans (((Below.refl wr.heap.size wr).drew.trans hb).mono hsz)); have z0 := (hb.cell (p := ⟨bb, off + K * 4, none⟩) hbr).trans s0; have z1 := (hb.cell (p := ⟨bb, off + K * 4 + 1, none⟩) hbr).trans s1; have z2 := (hb.cell (p := ⟨bb, off + K * 4 + 2, none⟩) hbr).trans s2; have z3 := (hb.cell (p := ⟨bb, off + K * 4 + 3, none⟩) hbr).trans s3; have z0b := (hb.cell (p := ⟨bb', off' + K * 4, none⟩) hbr').trans s0'; have z1b := (hb.cell (p := ⟨bb', off' + K * 4 + 1, none⟩) hbr').trans s1'; have z2b := (hb.cell (p := ⟨bb', off' + K * 4 + 2, none⟩) hbr').trans s2'; have z3b := (hb.cell (p := ⟨bb', off' + K * 4 + 3, none⟩) hbr').trans s3'; clear hb))
      go_wp2
      exact ⟨⟨K + 1, by go_num, hKi, HB⟩, by simp [intOf]; omega⟩
    · obtain rfl : K = l.length := by omega
      go_wp2
      go_ret
      exact ⟨rfl, hB.out⟩
end Go.Proofs.Ytoecgkdipgaaeaa
