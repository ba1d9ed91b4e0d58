/- Contracts and plain laws that this claim leans on, laid together: Rfx, Alk, Ape, Beh, RefS1, RefS2, RefS3, RefS4. -/
import Derived.Test.YtmnpchncmbnddaaG13
import Derived.Test.YtmnpchncmbnddaaG09
import Derived.Test.YtmnpchncmbnddaaG08
import Derived.Test.YtmnpchncmbnddaaCmtL2
import Derived.Deep.CutRange
import Derived.Sort.OwnSorted
set_option linter.all false
set_option linter.unusedVariables false
set_option linter.unusedSimpArgs false
set_option linter.unnecessarySimpa false
/- Laws of layer 20: rebuildFixed; are two lists alike. -/
namespace Go.Proofs.Ytmnpchncmbnddaa
open Go.RowKit

def rxA : En := ⟨1, 0, 0, ⟨#[97]⟩, [7], false⟩
def rxB : En := ⟨3, 1, 1, ⟨#[]⟩, [], false⟩
def rxC : En := ⟨1, 0, 0, ⟨#[98]⟩, [], false⟩
theorem rx_may : ∀ e ∈ [rxA, rxB, rxC], e.may := fun e he => by
  simp only [List.mem_cons, List.not_mem_nil, or_false] at he
  rcases he with rfl | rfl | rfl
  · unfold rxA; rw [may_1]; exact ⟨by decide, by decide, rfl, rfl, rfl, by decide⟩
  · unfold rxB; rw [may_m (by decide)]; exact ⟨by decide, by decide, by decide, by decide, by decide, rfl, rfl⟩
  · unfold rxC; rw [may_1]; exact ⟨by decide, by decide, rfl, rfl, rfl, by decide⟩
def rxS : PS := [([97], [⟨1, [7], false⟩])]
theorem rx_comG : comG 1 [] [rxA, rxB, rxC] = some [rxA] := by
  have h1 : rxA.chk = 0 := En.chk_ok (rx_may _ (List.mem_cons_self ..))
  have h2 : rxB.chk = 0 := En.chk_ok (rx_may _ (List.mem_cons_of_mem _ (List.mem_cons_self ..)))
  unfold comG
  rw [if_neg (by rw [h1]; decide), if_pos (.inl rfl), if_neg (by decide)]
  unfold comG
  rw [if_neg (by rw [h2]; decide), if_neg (by decide), if_pos (show rxB.kind = 3 from rfl), if_neg (by decide)]
  rfl
theorem rx_read : GrpEnd [rxA, rxB, rxC] 0 rxS 1 2 := by
  have h : grpF [] 0 0 ([rxA, rxB, rxC].drop 0) = some (rxS, 1, 2) := by
    rw [List.drop_zero, grpF_cons, if_neg (by decide), show IntKind.i64.wrap (0 + 1) = 1 from by decide, rx_comG]
    rfl
  have r := Grp.step (.zero (l := [rxA, rxB, rxC]) (start := 0)) h
  refine ⟨r, ?_⟩
  have h3 : rxC.chk = 0 := En.chk_ok (rx_may _ (List.mem_cons_of_mem _ (List.mem_cons_of_mem _ (List.mem_cons_self ..))))
  show grpF rxS 1 _ [rxC] = none
  rw [grpF_cons, if_neg (by decide)]
  unfold comG
  rw [if_neg (by rw [h3]; decide), if_pos (.inl rfl), if_neg (by decide)]
  rfl
theorem rx_ok : PsOk rxS 1 := rx_read.1.ok.1
theorem rx_img : imgF rxS 4 = [⟨4, 4, 1, ⟨#[]⟩, [], false⟩, ⟨5, 1, 0, ⟨#[97]⟩, [7], false⟩, ⟨6, 4, 1, ⟨#[]⟩, [], false⟩] := rfl
set_option maxRecDepth 100000 in
set_option maxHeartbeats 6400000 in
theorem rebuildFixed_any {w : World} : Calls Try.prog 19 #[] w (True_ w) := by
  obtain ⟨w1, hw1⟩ : ∃ x, x = w.alloc (.cells #[.int .u8 7] 5) := ⟨_, rfl⟩
  obtain ⟨w2, hw2⟩ : ∃ x, x = w1.alloc (.cells #[.int .i64 1, .int .i64 0, .int .i64 0, .string ⟨#[97]⟩, .slice (some ⟨w.heap.size, 0, none⟩) 1 1, .bool false, .int .i64 3, .int .i64 1, .int .i64 1, .string ⟨#[]⟩, .slice none 0 0, .bool false, .int .i64 1, .int .i64 0, .int .i64 0, .string ⟨#[98]⟩, .slice none 0 0, .bool false] 26) := ⟨_, rfl⟩
  have HW1 := Lib.hid hw1
  have HW2 := Lib.hid hw2
  have T1 : Turn (Item.all []) w (Item.all [Item.row (.slice (some ⟨w.heap.size, 0, none⟩) 1 1) [7]]) w1 := by
    rw [hw1]
    exact (Turn.none_ (w := w)).more (y := Item.row (.slice (some ⟨w.heap.size, 0, none⟩) 1 1) [7]) ((Below.refl _ _).alloc (Nat.le_refl _) _) (row_new rfl (by decide)) (fun k hk => own_new hk)
  have hs1 : w.heap.size + 1 = w1.heap.size := by rw [hw1]; simp
  have T2 : Turn (Item.all []) w (Item.all [Item.rowT 26 6 (.slice (some ⟨w1.heap.size, 0, none⟩) 3 3) 3 (toldCells [⟨rxA, some ⟨w.heap.size, 0, none⟩, 1⟩, ⟨rxB, none, 0⟩, ⟨rxC, none, 0⟩]), Item.row (.slice (some ⟨w.heap.size, 0, none⟩) 1 1) [7]]) w2 := by
    rw [hw2]
    exact T1.more (y := Item.rowT 26 6 (.slice (some ⟨w1.heap.size, 0, none⟩) 3 3) 3 _) ((Below.refl _ _).alloc (Nat.le_refl _) _) (row_new rfl (by decide)) (fun k hk => own_new hk)
  have HS := Lib.hid (sl_told (ts := [⟨rxA, some ⟨w.heap.size, 0, none⟩, 1⟩, ⟨rxB, none, 0⟩, ⟨rxC, none, 0⟩]) (T2.get (i := 0) rfl) rfl (fun i hi => by
    simp only [toldRows, List.map_cons, List.map_nil, List.mem_cons, List.not_mem_nil, or_false] at hi
    rcases hi with rfl | rfl | rfl
    · exact T2.get (i := 1) rfl
    · exact BOwns.nil _ _
    · exact BOwns.nil _ _) rx_may)
  have HB2 := Lib.hid T2.free
  have HRD := Lib.hid (show Calls Try.prog 13 #[.slice (some ⟨w1.heap.size, 0, none⟩) 3 3, .int .i64 0] w2 (RbReadPost [rxA, rxB, rxC] 0 w2) from rbRead_any (l := [rxA, rxB, rxC]) (c := 3) HS.out (Nat.le_refl _) (by decide) (by decide) (fun e he => by
    simp only [List.mem_cons, List.not_mem_nil, or_false] at he
    rcases he with rfl | rfl | rfl <;> exact ⟨by decide, by decide⟩))
  clear hw1 hw2 T1 T2 HS
  go_enter Try.func19, Try.ntmps19
  go_upto_region 2 with fail
  rw [← HW1.out, ← HW2.out]
  clear HW1 HW2 hs1
  go_wp2_with fail
  refine HRD.out.mono ?_
  rintro e w3 ⟨S, now, n, hg, s, rfl, hok, hv, t⟩
  obtain ⟨rfl, rfl, rfl⟩ := hg.one rx_read
  have HST := Lib.hid (And.intro hok hv)
  have T3 := Lib.hid t
  clear hg HRD hok t
  have HPS := Lib.hid (show PsOk s.view 1 from by rw [hv]; exact rx_ok)
  have HG1 := Lib.hid (get_any (w := w3) (key := ⟨#[97]⟩) (st := 1) (T3.out.get (i := 0) rfl) HST.out.1 (by decide) (fun p hp => (HPS.out.each p hp).2.1) (by decide))
  rw [hv, show getF rxS (ByteArray.mk #[97]).data.toList 1 = some [7] from rfl] at HG1
  clear hv
  go_wp2_with fail
  refine HG1.out.mono ?_
  rintro e w4 (⟨h1, _, _⟩ | ⟨l1, A1, c1, h1, rfl, ho1, hb1⟩)
  · cases h1
  injection h1 with h1
  subst h1
  have T4 := Lib.hid ((T3.out.add (y := Item.row (.slice A1 1 c1) [7]) hb1 (owns_less ho1 (Nat.zero_le _)) (fun k hk => (ho1.lt hk).1)))
  clear ho1 hb1 HG1 T3
  have HG2 := Lib.hid (get_any (w := w4) (key := ⟨#[98]⟩) (st := 9) (T4.out.get (i := 0) rfl) HST.out.1 (by decide) (fun p hp => (HPS.out.each p hp).2.1) (by decide))
  rw [HST.out.2, show getF rxS (ByteArray.mk #[98]).data.toList 9 = none from rfl] at HG2
  go_wp2_with fail
  refine HG2.out.mono ?_
  rintro e w5 (⟨_, rfl, hb2⟩ | ⟨l1, A2, c2, h1, _, _, _⟩)
  rotate_left
  · cases h1
  have T5 := Lib.hid (T4.out.go hb2)
  clear hb2 HG2 T4
  have HIM := Lib.hid (image_any (w := w5) (st := 4) (T5.out.get (i := 0) rfl) HST.out.1 HPS.out (by decide) (by rw [HST.out.2]; decide))
  rw [HST.out.2] at HIM
  go_wp2_with fail
  refine HIM.out.mono ?_
  rintro e w6 ⟨ts, A3, n3, c3, hts, hn3, rfl, t⟩
  rw [rx_img] at hts hn3
  have hn : n3 = 3 := hn3
  subst hn
  have T6 := Lib.hid (T5.out.join t)
  have HS6 := Lib.hid (show kEn.Sl w6 w6.heap.size A3 _ from hts ▸ sl_told (t.get (i := 0) rfl) (by rw [← List.length_map (f := Told.x), hts]; rfl) (fun i hi => Item.all_get t.p (List.mem_cons_of_mem _ hi)) (fun e he => by
    rw [hts] at he
    simp only [List.mem_cons, List.not_mem_nil, or_false] at he
    rcases he with rfl | rfl | rfl
    · rw [may_m (by decide)]; exact ⟨by decide, by decide, by decide, by decide, by decide, rfl, rfl⟩
    · rw [may_5]; exact ⟨by decide, by decide, by decide, by decide, rfl, by decide, by decide⟩
    · rw [may_m (by decide)]; exact ⟨by decide, by decide, by decide, by decide, by decide, rfl, rfl⟩))
  obtain ⟨b0, o0, Ax, cx, rfl, hb0, k1, s00, s01, k2, k3, k4, k5, k6⟩ := en_at HS6.out (i := 0) (by decide)
  clear k1 k2 k3 k4 k5 k6
  obtain ⟨b1, o1, Ay, cy, e1, k1, k2, k3, k4, k5, s13, k6, k7, k8⟩ := en_at HS6.out (i := 1) (by decide)
  injection e1 with e1
  injection e1 with e1 e2
  subst e1; subst e2
  clear k1 k2 k3 k4 k5 k6 k7 k8
  obtain ⟨b2, o2, Az, cz, e2, k1, k2, s20, k3, k4, k5, k6, k7, k8⟩ := en_at HS6.out (i := 2) (by decide)
  injection e2 with e2
  injection e2 with e2 e3
  subst e2; subst e3
  obtain ⟨Ao, co, eo, eol, ho⟩ := BOwns.slice (T6.out.get (i := 1) rfl : BOwns w6 0 (.slice A1 1 c1) [7])
  injection eo with eo1 eo3 eo2
  subst eo1; subst eo2
  clear eo3 eol
  obtain ⟨bb, ob, hA1, hbb, y0⟩ := ho.at_ (k := 0) (by decide)
  subst hA1
  have HR := Lib.hid (show ∀ W, Below w6.heap.size w6 W → True_ w (.returned (.bool true)) W from fun W hb => ⟨rfl, (T6.out.go hb).free |> fun h => HB2.out.trans (h.mono HB2.out.size)⟩)
  clear hts hn3 T5 HIM t HS6 ho T6
  have p00 : w6.cell? ⟨b0, o0, none⟩ = some (.int .i64 4) := s00
  have p01 : w6.cell? ⟨b0, o0 + 1, none⟩ = some (.int .i64 4) := s01
  have p13 : w6.cell? ⟨b0, o0 + 6 + 3, none⟩ = some (.string ⟨#[97]⟩) := s13
  have p20 : w6.cell? ⟨b0, o0 + 12, none⟩ = some (.int .i64 6) := s20
  have p30 : w6.cell? ⟨bb, ob, none⟩ = some (.int .u8 7) := y0
  clear s00 s01 s13 s20 y0 k1 k2 k3 k4 k5 k6 k7 k8
  go_wp2
  go_ret
  exact HR.out _ (Below.refl _ _)
end Go.Proofs.Ytmnpchncmbnddaa
/- Laws of layer 20: are two lists alike. -/
namespace Go.Proofs.Ytmnpchncmbnddaa
open Go.RowKit

set_option maxRecDepth 100000 in
set_option maxHeartbeats 3200000 in
theorem alike_any {w : World} {A A' : Option Addr} {c c' : Nat} {l : List Vn} (h : kVn.Sl w w.heap.size A l) (h' : kVn.Sl w w.heap.size A' l) (hl : l.length ≤ 140737488355328) : 
    Calls Try.prog 14 #[.slice A l.length c, .slice A' l.length c'] w (True_ w) := by
  have H := Lib.hid h
  have H' := Lib.hid h'
  clear h h'
  go_enter Try.func14, Try.ntmps14
  go_wp2
  go_loopw [13] (fun t wr => ∃ (K : Nat), t = .int .i64 K ∧ K ≤ l.length ∧ Hid (Below w.heap.size w wr)) (fun t _ => l.length - (intOf t).toNat)
  case atStart => exact ⟨0, rfl, by omega, Lib.hid (Below.refl _ _)⟩
  case round =>
    obtain ⟨K, rfl, hK, hB⟩ := hrel
    by_cases hlt : (K : Int) < (l.length : Int)
    · have hKN : K < l.length := by omega
      obtain ⟨bb, off, Av, cv, rfl, hbb, hints, s0, s1, s2, s3, hval, hcap⟩ := vn_at (H.out.below hB.out) hKN
      obtain ⟨bb', off', Av', cv', rfl, hbb', hints', s0', s1', s2', s3', hval', hcap'⟩ := vn_at (H'.out.below hB.out) hKN
      have hsz := hB.out.size
      obtain ⟨x, hx⟩ : ∃ x, x = l[K] := ⟨_, rfl⟩
      rw [← hx] at s0 s1 s2 s3 hval s0' s1' s2' s3' hval'
      have HV := Lib.hid ((hval.below (Below.refl _ _).drew).more hsz)
      have HV' := Lib.hid ((hval'.below (Below.refl _ _).drew).more hsz)
      obtain ⟨key, s, v, dd⟩ := x
      simp only at s0 s1 s2 s3 s0' s1' s2' s3'
      have hKi : K + 1 ≤ l.length := by omega
      clear hx hval hval' hints hints' hcap hcap'
      have hbr : bb < wr.drew.heap.size := Nat.lt_of_lt_of_le hbb hsz
      have hbr' : bb' < wr.drew.heap.size := Nat.lt_of_lt_of_le hbb' hsz
      go_wp2_with fail
      go_region_held3 (fun w' => w'.cell? ⟨bb, off + K * 4, none⟩ = some (.string key) ∧ w'.cell? ⟨bb, off + K * 4 + 1, none⟩ = some (.int .i64 s) ∧ w'.cell? ⟨bb, off + K * 4 + 2, none⟩ = some (.slice Av v.length cv) ∧ w'.cell? ⟨bb, off + K * 4 + 3, none⟩ = some (.bool dd) ∧ w'.cell? ⟨bb', off' + K * 4, none⟩ = some (.string key) ∧ w'.cell? ⟨bb', off' + K * 4 + 1, none⟩ = some (.int .i64 s) ∧ w'.cell? ⟨bb', off' + K * 4 + 2, none⟩ = some (.slice Av' v.length cv') ∧ w'.cell? ⟨bb', off' + K * 4 + 3, none⟩ = some (.bool dd)) (first | (with_reducible exact ⟨s0, s1, s2, s3, s0', s1', s2', s3'⟩) | (with_reducible exact ⟨z0, z1, z2, z3, z0b, z1b, z2b, z3b⟩) | go_keep) ((go_at_call 35; refine (sameVersion_any (A := Av) (A' := Av') (c := cv) (c' := cv') ⟨key, s, v, dd⟩ HV.out HV'.out).mono ?_; rintro e w2 ⟨rfl, hb⟩; have HB := Lib.hid (hB.out.trans (((Below.refl wr.heap.size wr).drew.trans hb).mono hsz)); have z0 := (hb.cell (p := ⟨bb, off + K * 4, none⟩) hbr).trans s0; have z1 := (hb.cell (p := ⟨bb, off + K * 4 + 1, none⟩) hbr).trans s1; have z2 := (hb.cell (p := ⟨bb, off + K * 4 + 2, none⟩) hbr).trans s2; have z3 := (hb.cell (p := ⟨bb, off + K * 4 + 3, none⟩) hbr).trans s3; have z0b := (hb.cell (p := ⟨bb', off' + K * 4, none⟩) hbr').trans s0'; have z1b := (hb.cell (p := ⟨bb', off' + K * 4 + 1, none⟩) hbr').trans s1'; have z2b := (hb.cell (p := ⟨bb', off' + K * 4 + 2, none⟩) hbr').trans s2'; have z3b := (hb.cell (p := ⟨bb', off' + K * 4 + 3, none⟩) hbr').trans s3'; clear hb))
      go_wp2
      exact ⟨⟨K + 1, by go_num, hKi, HB⟩, by simp [intOf]; omega⟩
    · obtain rfl : K = l.length := by omega
      go_wp2
      go_ret
      exact ⟨rfl, hB.out⟩
end Go.Proofs.Ytmnpchncmbnddaa
/- Laws of layer 20: rows of entries that come from others; filled; checkpoints read. -/
namespace Go.Proofs.Ytmnpchncmbnddaa
open Go.RowKit

def Told.okAt (w : World) (B : Nat) (t : Told) : Prop := t.x.ints ∧ BReads w B t.A t.x.value ∧ t.x.value.length ≤ t.c
theorem Told.okAt.go {w w' : World} {B B' : Nat} {t : Told} (h : t.okAt w B) (hb : Below B w w') (hB : B ≤ B') : t.okAt w' B' := ⟨h.1, (h.2.1.below hb).more hB, h.2.2⟩
/-! filled -/
/-! Checkpoints read. -/
end Go.Proofs.Ytmnpchncmbnddaa
/- Rebuild: a commit behind whole groups, the plain law. -/
namespace Go.Proofs.Ytmnpchncmbnddaa
open Go.RowKit

def En.kb (e : En) : Key := e.key.data.toList
theorem leB_kb (a b : ByteArray) : leB a b = (bytesBefore a.data.toList b.data.toList || a.data.toList == b.data.toList) := by
  unfold leB
  rw [ByteArray.toList_eq, ByteArray.toList_eq, bytesLess_eq]
theorem less_leB (a b : ByteArray) : Op.bytesLess a.toList b.toList = !leB b a := by
  rw [leB_kb, ByteArray.toList_eq, ByteArray.toList_eq, bytesLess_eq]
  by_cases e : b.data.toList = a.data.toList
  · rw [e, bB_irrefl]; simp
  · rw [beq_eq_false_iff_ne.2 e, Bool.or_false]
    rcases bB_total e with h | h
    · rw [h]
      cases hh : bytesBefore a.data.toList b.data.toList
      · rfl
      · have := bB_trans h hh; rw [bB_irrefl] at this; cases this
    · rw [h]
      cases hh : bytesBefore b.data.toList a.data.toList
      · rfl
      · have := bB_trans h hh; rw [bB_irrefl] at this; cases this
theorem leB_no {a b : ByteArray} (h : leB b a = false) : bytesBefore a.data.toList b.data.toList = true := by
  have := less_leB a b
  rw [h, ByteArray.toList_eq, ByteArray.toList_eq, bytesLess_eq] at this
  exact this
theorem no_leB {a b : ByteArray} (h : bytesBefore a.data.toList b.data.toList = true) : leB b a = false := by
  have := less_leB a b
  rw [ByteArray.toList_eq, ByteArray.toList_eq, bytesLess_eq, h] at this
  cases hh : leB b a
  · rfl
  · rw [hh] at this; cases this
structure OwnOk (l : List En) : Prop where
  each : ∀ e ∈ l, (e.kind = 1 ∨ e.kind = 2) ∧ e.chk = 0
  up : l.Pairwise fun a b => bytesBefore a.kb b.kb = true
theorem OwnOk.nil : OwnOk [] := ⟨fun _ h => (by cases h), List.Pairwise.nil⟩
theorem OwnOk.add {l : List En} {e : En} (h : OwnOk l) (hk : e.kind = 1 ∨ e.kind = 2) (hc : e.chk = 0) (hu : notUp l e = false) : OwnOk (l ++ [e]) := by
  refine ⟨fun x hx => ?_, List.pairwise_append.2 ⟨h.up, List.pairwise_singleton _ _, fun a ha b hb => ?_⟩⟩
  · rcases List.mem_append.1 hx with hx | hx
    · exact h.each x hx
    · rw [List.mem_singleton.1 hx]; exact ⟨hk, hc⟩
  · rw [List.mem_singleton.1 hb]
    have hn : l ≠ [] := List.ne_nil_of_mem ha
    have hlast : bytesBefore (l.getLast hn).kb e.kb = true := by
      unfold notUp at hu
      rw [List.getLast?_eq_some_getLast hn] at hu
      exact leB_no hu
    have hu2 := h.up
    rw [← List.dropLast_concat_getLast hn] at ha hu2
    rcases List.mem_append.1 ha with h1 | h1
    · exact bB_trans ((List.pairwise_append.1 hu2).2.2 a h1 _ (List.mem_singleton_self _)) hlast
    · rw [List.mem_singleton.1 h1]; exact hlast
theorem OwnOk.notUp {l : List En} (h : OwnOk l) {K : Nat} (hK : K < l.length) : notUp (l.take K) l[K] = false := by
  rcases Nat.eq_zero_or_pos K with rfl | h0
  · exact notUp_0
  · obtain ⟨J, rfl⟩ : ∃ J, K = J + 1 := ⟨K - 1, by omega⟩
    rw [notUp_J (show J < l.length by omega) rfl]
    exact no_leB (List.pairwise_iff_getElem.1 h.up J (J + 1) (by omega) hK (by omega))
theorem own_wOf {e : En} {m : Int} (hk : e.kind = 1 ∨ e.kind = 2) (hc : e.chk = 0) (h0 : 0 ≤ m) (h1 : m ≤ 4611686018427387904) : (wOf m e).bad = 0 ∧ (wOf m e).k = e.kb ∧ (wOf m e).stamp = m ∧ (wOf m e).value = e.value ∧ ((wOf m e).dead = true ↔ e.kind = 2) ∧ (e.kind = 2 → e.value = []) := by
  have hm : e.may := by
    unfold En.chk at hc
    by_cases hm : e.may
    · exact hm
    · rw [if_neg hm] at hc; cases hc
  obtain ⟨k, s, n, key, v, d⟩ := e
  rcases hk with rfl | rfl
  · rw [may_1] at hm
    have hw : wOf m ⟨1, s, n, key, v, d⟩ = ⟨key, m, v, false⟩ := rfl
    rw [hw]
    exact ⟨bad_of hm.1 hm.2.1 hm.2.2.2.2.2 (fun h => by cases h) h0 h1, rfl, rfl, rfl, by simp, fun h => by cases h⟩
  · rw [may_2] at hm
    have hv : v = [] := List.length_eq_zero_iff.1 hm.2.2.2.2.2
    subst hv
    have hw : wOf m ⟨2, s, n, key, [], d⟩ = ⟨key, m, [], true⟩ := rfl
    rw [hw]
    exact ⟨bad_of hm.1 hm.2.1 (Nat.zero_le _) (fun _ => rfl) h0 h1, rfl, rfl, rfl, by simp, fun _ => rfl⟩
end Go.Proofs.Ytmnpchncmbnddaa
/- The reference's store: newest, last, by contract. -/
namespace Go.Proofs.Ytmnpchncmbnddaa
open Go.RowKit

/-- The newest version of a key up to a stamp, as the reference finds it. -/
def newS (key : ByteArray) (st : Int) (b : Option Vn) (v : Vn) : Option Vn := if v.key = key ∧ v.stamp ≤ st ∧ (∀ x, b = some x → x.stamp < v.stamp) then some v else b
def newL (l : List Vn) (key : ByteArray) (st : Int) : Option Vn := l.foldl (newS key st) none
theorem newL_snoc {l : List Vn} {key : ByteArray} {st : Int} {K : Nat} (h : K < l.length) {x : Vn} (hx : x = l[K]) : newL (l.take (K + 1)) key st = newS key st (newL (l.take K) key st) x := by
  subst hx
  unfold newL
  rw [List.take_succ_eq_append_getElem h, List.foldl_append]; rfl
def vz : Vn := ⟨⟨#[]⟩, 0, [], false⟩
def NewPost (o : Option Vn) (w : World) (e : Ending) (w' : World) : Prop := (∃ A c, e = .returned (.tuple #[.agg ((o.getD vz).cells A c), .bool o.isSome])) ∧ Below w.heap.size w w'
/-- What holds at each round: the best so far lies in its variable. -/
def NewIn (w : World) (l : List Vn) (key : ByteArray) (st : Int) (g6 g8 K : Nat) (b : Bool) (wr : World) : Prop :=
  ∃ (A : Option Addr) (c : Nat), b = (newL (l.take K) key st).isSome ∧ Turn (Item.all []) w (Item.all [Item.blk g6 88 (vz.cells none 0), Item.blk g8 88 (((newL (l.take K) key st).getD vz).cells A c)]) wr
set_option maxRecDepth 100000 in
set_option maxHeartbeats 6400000 in
theorem rnewest_any {w : World} {B : Nat} {A : Option Addr} {c : Nat} {l : List Vn} (hS : kVn.Sl w B A l) (hB : B ≤ w.heap.size) (hl : l.length ≤ 1099511627776) (key : ByteArray) (st : Int) :
    Calls Try.prog 83 #[.slice A l.length c, .string key, .int .i64 st] w (NewPost (newL l key st) w) := by
  have HS := Lib.hid hS
  obtain ⟨N, hN⟩ : ∃ N, N = l.length := ⟨_, rfl⟩
  have HN := Lib.hid hN
  rw [← hN] at hl ⊢
  clear hS hN
  go_enter Try.func83, Try.ntmps83
  go_upto_region 2 with fail
  obtain ⟨w1, hw1⟩ : ∃ x, x = w.alloc (.cells #[.string ⟨#[]⟩, .int .i64 0, .slice none 0 0, .bool false] 88) := ⟨_, rfl⟩
  obtain ⟨w2, hw2⟩ : ∃ x, x = w1.alloc (.cells #[.string ⟨#[]⟩, .int .i64 0, .slice none 0 0, .bool false] 88) := ⟨_, rfl⟩
  have T2 := Lib.hid (show NewIn w l key st w.heap.size w1.heap.size 0 false w2 from ⟨none, 0, by rw [List.take_zero]; rfl, by
    have t1 : Turn (Item.all []) w (Item.all [Item.blk w.heap.size 88 (vz.cells none 0)]) w1 := by
      rw [hw1]
      exact (Turn.none_ (w := w)).more (y := Item.blk w.heap.size 88 (vz.cells none 0)) ((Below.refl _ _).alloc (Nat.le_refl _) _) (Blk.new _ _ _) (fun k hk => Nat.le_of_eq hk.symm)
    rw [hw2]
    exact (t1.more (y := Item.blk w1.heap.size 88 (vz.cells none 0)) ((Below.refl _ _).alloc (Nat.le_refl _) _) (Blk.new _ _ _) (fun k hk => Nat.le_of_eq hk.symm)).by_ 2 rfl [1, 0] (by decide)⟩)
  go_wp2
  rw [← hw1, ← hw2]
  obtain ⟨g6, hg6⟩ : ∃ g, g = w.heap.size := ⟨_, rfl⟩
  obtain ⟨g8, hg8⟩ : ∃ g, g = w1.heap.size := ⟨_, rfl⟩
  have hs1 : w.heap.size + 1 = w1.heap.size := by rw [hw1]; simp
  try rw [hs1]
  rw [← hg6, ← hg8] at T2
  have HG6 := Lib.hid hg6
  have HB0 := Lib.hid hB
  rw [← hg8]
  try rw [← hg6]
  clear hw1 hw2 hs1 hg8 hg6
  go_loopw [15, 9] (fun t u wr => ∃ (K : Nat) (b : Bool), t = .int .i64 K ∧ u = .bool b ∧ K ≤ N ∧ Hid (NewIn w l key st g6 g8 K b wr)) (fun t _ _ => N - (intOf t).toNat)
  case atStart => exact ⟨0, false, rfl, rfl, Nat.zero_le _, T2⟩
  case round =>
    clear T2
    obtain ⟨K, b, rfl, rfl, hK, hH⟩ := hrel
    by_cases hlt : (K : Int) < (N : Int)
    · have hKl : K < l.length := by have := HN.out; omega
      have hKi : K + 1 ≤ N := by omega
      obtain ⟨A8, c8, hb, hT⟩ := hH.out
      have hbw := hT.free
      obtain ⟨bb, off, Av, cv, hA, hbb, hints, s0, s1, s2, s3, hval, hvc⟩ := vn_at (HS.out.keep (fun p hp => hbw.cell (Nat.lt_of_lt_of_le hp HB0.out))) hKl
      subst hA
      obtain ⟨x, hx⟩ : ∃ x, x = l[K] := ⟨_, rfl⟩
      rw [← hx] at s0 s1 s2 s3
      have HNS := Lib.hid (newL_snoc (key := key) (st := st) hKl hx)
      obtain ⟨xk, xs, xv, xd⟩ := x
      simp only at s0 s1 s2 s3
      obtain ⟨o, ho⟩ : ∃ o, o = newL (l.take K) key st := ⟨_, rfl⟩
      rw [← ho] at hb hT HNS
      have HB := Lib.hid hb
      obtain ⟨wa, hwa⟩ : ∃ y, y = wr.alloc (.cells #[.string xk, .int .i64 xs, .slice Av xv.length cv, .bool xd] 88) := ⟨_, rfl⟩
      have HWA := Lib.hid hwa
      have TA := Lib.hid (show Turn (Item.all []) w (Item.all [Item.blk g6 88 (vz.cells none 0), Item.blk g8 88 ((o.getD vz).cells A8 c8), Item.blk wr.heap.size 88 #[.string xk, .int .i64 xs, .slice Av xv.length cv, .bool xd]]) wa from by
        rw [hwa]
        exact (hT.more (y := Item.blk wr.heap.size 88 #[.string xk, .int .i64 xs, .slice Av xv.length cv, .bool xd]) ((Below.refl _ _).alloc (Nat.le_refl _) _) (Blk.new _ _ _) (fun k hk => Nat.le_of_eq hk.symm)).by_ 3 rfl [1, 2, 0] (by decide))
      have hbr : bb < wr.heap.size := Nat.lt_of_lt_of_le (Nat.lt_of_lt_of_le hbb HB0.out) hbw.size
      clear hx hval hvc hints hbb hT hH hbw hb ho hwa hKl
      go_upto_region 5 with fail
      rw [← HWA.out]
      obtain ⟨gx, hgx⟩ : ∃ g, g = wr.heap.size := ⟨_, rfl⟩
      rw [← hgx] at TA ⊢
      clear HWA hgx s0 s1 s2 s3 hbr
      have q0 := Blk.cell (show Blk wa gx _ #[.string xk, .int .i64 xs, .slice Av xv.length cv, .bool xd] from TA.out.get (i := 2) rfl) 0
      have q1 := Blk.cell (show Blk wa gx _ #[.string xk, .int .i64 xs, .slice Av xv.length cv, .bool xd] from TA.out.get (i := 2) rfl) 1
      have q2 := Blk.cell (show Blk wa gx _ #[.string xk, .int .i64 xs, .slice Av xv.length cv, .bool xd] from TA.out.get (i := 2) rfl) 2
      have q3 := Blk.cell (show Blk wa gx _ #[.string xk, .int .i64 xs, .slice Av xv.length cv, .bool xd] from TA.out.get (i := 2) rfl) 3
      obtain ⟨⟨ok_, os, ov, od⟩, hov⟩ : ∃ v, v = o.getD vz := ⟨_, rfl⟩
      have HOV := Lib.hid hov
      rw [← hov, show Vn.cells ⟨ok_, os, ov, od⟩ A8 c8 = #[.string ok_, .int .i64 os, .slice A8 ov.length c8, .bool od] from rfl] at TA
      have y0 := Blk.cell (show Blk wa g8 _ #[.string ok_, .int .i64 os, .slice A8 ov.length c8, .bool od] from TA.out.get (i := 1) rfl) 0
      have f0 := Blk.frozen (show Blk wa g8 _ #[.string ok_, .int .i64 os, .slice A8 ov.length c8, .bool od] from TA.out.get (i := 1) rfl) 0
      have y1 := Blk.cell (show Blk wa g8 _ #[.string ok_, .int .i64 os, .slice A8 ov.length c8, .bool od] from TA.out.get (i := 1) rfl) 1
      have f1 := Blk.frozen (show Blk wa g8 _ #[.string ok_, .int .i64 os, .slice A8 ov.length c8, .bool od] from TA.out.get (i := 1) rfl) 1
      have y2 := Blk.cell (show Blk wa g8 _ #[.string ok_, .int .i64 os, .slice A8 ov.length c8, .bool od] from TA.out.get (i := 1) rfl) 2
      have f2 := Blk.frozen (show Blk wa g8 _ #[.string ok_, .int .i64 os, .slice A8 ov.length c8, .bool od] from TA.out.get (i := 1) rfl) 2
      have y3 := Blk.cell (show Blk wa g8 _ #[.string ok_, .int .i64 os, .slice A8 ov.length c8, .bool od] from TA.out.get (i := 1) rfl) 3
      have f3 := Blk.frozen (show Blk wa g8 _ #[.string ok_, .int .i64 os, .slice A8 ov.length c8, .bool od] from TA.out.get (i := 1) rfl) 3
      simp only [List.getElem?_toArray, List.getElem?_cons_zero, List.getElem?_cons_succ] at q0 q1 q2 q3 y0 y1 y2 y3
      clear hov
      cases hE : (xk.toList == key.toList) with
      | false =>
        have HNK := Lib.hid (show newS key st o ⟨xk, xs, xv, xd⟩ = o from if_neg (fun h => by rw [show xk = key from h.1, beq_self_eq_true] at hE; cases hE))
        have HRE := Lib.hid (show NewIn w l key st g6 g8 (K + 1) b wa from ⟨A8, c8, by rw [HNS.out, HNK.out]; exact HB.out, by rw [HNS.out, HNK.out, ← HOV.out]; exact TA.out.sub (List.Sublist.cons_cons _ (List.Sublist.cons_cons _ (List.nil_sublist _)))⟩)
        clear TA
        go_wp2
        exact ⟨⟨K + 1, b, by go_num, rfl, hKi, HRE⟩, by simp [intOf]; omega⟩
      | true =>
        have HKE := Lib.hid (show xk = key from by
          have h := beq_iff_eq.1 hE
          rw [ByteArray.toList_eq, ByteArray.toList_eq] at h
          obtain ⟨⟨a⟩⟩ := xk
          obtain ⟨⟨b⟩⟩ := key
          simp only at h
          subst h
          rfl)
        by_cases hs : xs ≤ st
        · have e1 : decide (xs ≤ st) = true := decide_eq_true hs
          have HSS := Lib.hid hs
          clear hs
          cases b with
          | false =>
            have HNK := Lib.hid (show newS key st o ⟨xk, xs, xv, xd⟩ = some ⟨xk, xs, xv, xd⟩ from if_pos ⟨HKE.out, HSS.out, fun y hy => by
              have h := HB.out
              rw [hy] at h; cases h⟩)
            have HRE := Lib.hid (show NewIn w l key st g6 g8 (K + 1) true ((((wa.setCell ⟨g8, 0, none⟩ (.string xk)).setCell ⟨g8, 1, none⟩ (.int .i64 xs)).setCell ⟨g8, 2, none⟩ (.slice Av xv.length cv)).setCell ⟨g8, 3, none⟩ (.bool xd)) from ⟨Av, cv, by rw [HNS.out, HNK.out]; rfl, by
              rw [HNS.out, HNK.out]
              have t1 := TA.out.step (i := 1) rfl (Turn.cell (TA.out.get (i := 1) rfl) 0 (.string xk))
              have t2 := t1.step (i := 1) rfl (Turn.cell (t1.get (i := 1) rfl) 1 (.int .i64 xs))
              have t3 := t2.step (i := 1) rfl (Turn.cell (t2.get (i := 1) rfl) 2 (.slice Av xv.length cv))
              have t4 := t3.step (i := 1) rfl (Turn.cell (t3.get (i := 1) rfl) 3 (.bool xd))
              exact t4.sub (List.Sublist.cons_cons _ (List.Sublist.cons_cons _ (List.nil_sublist _)))⟩)
            clear TA
            go_wp2
            exact ⟨⟨K + 1, true, by go_num, rfl, hKi, HRE⟩, by simp [intOf]; omega⟩
          | true =>
            by_cases hb : os < xs
            · have e2 : decide (os < xs) = true := decide_eq_true hb
              have HNK := Lib.hid (show newS key st o ⟨xk, xs, xv, xd⟩ = some ⟨xk, xs, xv, xd⟩ from if_pos ⟨HKE.out, HSS.out, fun y hy => by
                have h := HOV.out
                rw [hy] at h
                have h2 : os = y.stamp := congrArg Vn.stamp h
                show y.stamp < xs
                omega⟩)
              clear hb
              have HRE := Lib.hid (show NewIn w l key st g6 g8 (K + 1) true ((((wa.setCell ⟨g8, 0, none⟩ (.string xk)).setCell ⟨g8, 1, none⟩ (.int .i64 xs)).setCell ⟨g8, 2, none⟩ (.slice Av xv.length cv)).setCell ⟨g8, 3, none⟩ (.bool xd)) from ⟨Av, cv, by rw [HNS.out, HNK.out]; rfl, by
                rw [HNS.out, HNK.out]
                have t1 := TA.out.step (i := 1) rfl (Turn.cell (TA.out.get (i := 1) rfl) 0 (.string xk))
                have t2 := t1.step (i := 1) rfl (Turn.cell (t1.get (i := 1) rfl) 1 (.int .i64 xs))
                have t3 := t2.step (i := 1) rfl (Turn.cell (t2.get (i := 1) rfl) 2 (.slice Av xv.length cv))
                have t4 := t3.step (i := 1) rfl (Turn.cell (t3.get (i := 1) rfl) 3 (.bool xd))
                exact t4.sub (List.Sublist.cons_cons _ (List.Sublist.cons_cons _ (List.nil_sublist _)))⟩)
              clear TA
              go_wp2
              exact ⟨⟨K + 1, true, by go_num, rfl, hKi, HRE⟩, by simp [intOf]; omega⟩
            · have e2 : decide (os < xs) = false := decide_eq_false hb
              have HNK := Lib.hid (show newS key st o ⟨xk, xs, xv, xd⟩ = o from if_neg (fun h => by
                obtain ⟨y, hy⟩ := Option.isSome_iff_exists.1 HB.out.symm
                have h1 := h.2.2 y hy
                have h0 := HOV.out
                rw [hy] at h0
                have h2 : os = y.stamp := congrArg Vn.stamp h0
                have h3 : y.stamp < xs := h1
                omega))
              have HRE := Lib.hid (show NewIn w l key st g6 g8 (K + 1) true wa from ⟨A8, c8, by rw [HNS.out, HNK.out]; exact HB.out, by rw [HNS.out, HNK.out, ← HOV.out]; exact TA.out.sub (List.Sublist.cons_cons _ (List.Sublist.cons_cons _ (List.nil_sublist _)))⟩)
              clear TA hb
              go_wp2
              exact ⟨⟨K + 1, true, by go_num, rfl, hKi, HRE⟩, by simp [intOf]; omega⟩
        · have e1 : decide (xs ≤ st) = false := decide_eq_false hs
          have HNK := Lib.hid (show newS key st o ⟨xk, xs, xv, xd⟩ = o from if_neg (fun h => hs h.2.1))
          have HRE := Lib.hid (show NewIn w l key st g6 g8 (K + 1) b wa from ⟨A8, c8, by rw [HNS.out, HNK.out]; exact HB.out, by rw [HNS.out, HNK.out, ← HOV.out]; exact TA.out.sub (List.Sublist.cons_cons _ (List.Sublist.cons_cons _ (List.nil_sublist _)))⟩)
          clear TA hs
          go_wp2
          exact ⟨⟨K + 1, b, by go_num, rfl, hKi, HRE⟩, by simp [intOf]; omega⟩
    · obtain rfl : K = N := by omega
      obtain ⟨A8, c8, hb, hT⟩ := hH.out
      rw [List.take_of_length_le (by rw [← HN.out]; exact Nat.le_refl _)] at hb hT
      obtain ⟨o, ho⟩ : ∃ o, o = newL l key st := ⟨_, rfl⟩
      rw [← ho] at hb hT ⊢
      obtain ⟨⟨ok_, os, ov, od⟩, hov⟩ : ∃ v, v = o.getD vz := ⟨_, rfl⟩
      have HOV := Lib.hid hov
      rw [← hov, show Vn.cells ⟨ok_, os, ov, od⟩ A8 c8 = #[.string ok_, .int .i64 os, .slice A8 ov.length c8, .bool od] from rfl, show Vn.cells vz none 0 = #[.string ⟨#[]⟩, .int .i64 0, .slice none 0 0, .bool false] from rfl] at hT
      have TA := Lib.hid hT
      have y0 := Blk.cell (show Blk wr g8 _ #[.string ok_, .int .i64 os, .slice A8 ov.length c8, .bool od] from TA.out.get (i := 1) rfl) 0
      have q0 := Blk.cell (show Blk wr g6 _ #[.string ⟨#[]⟩, .int .i64 0, .slice none 0 0, .bool false] from TA.out.get (i := 0) rfl) 0
      have f0 := Blk.frozen (show Blk wr g6 _ #[.string ⟨#[]⟩, .int .i64 0, .slice none 0 0, .bool false] from TA.out.get (i := 0) rfl) 0
      have y1 := Blk.cell (show Blk wr g8 _ #[.string ok_, .int .i64 os, .slice A8 ov.length c8, .bool od] from TA.out.get (i := 1) rfl) 1
      have q1 := Blk.cell (show Blk wr g6 _ #[.string ⟨#[]⟩, .int .i64 0, .slice none 0 0, .bool false] from TA.out.get (i := 0) rfl) 1
      have f1 := Blk.frozen (show Blk wr g6 _ #[.string ⟨#[]⟩, .int .i64 0, .slice none 0 0, .bool false] from TA.out.get (i := 0) rfl) 1
      have y2 := Blk.cell (show Blk wr g8 _ #[.string ok_, .int .i64 os, .slice A8 ov.length c8, .bool od] from TA.out.get (i := 1) rfl) 2
      have q2 := Blk.cell (show Blk wr g6 _ #[.string ⟨#[]⟩, .int .i64 0, .slice none 0 0, .bool false] from TA.out.get (i := 0) rfl) 2
      have f2 := Blk.frozen (show Blk wr g6 _ #[.string ⟨#[]⟩, .int .i64 0, .slice none 0 0, .bool false] from TA.out.get (i := 0) rfl) 2
      have y3 := Blk.cell (show Blk wr g8 _ #[.string ok_, .int .i64 os, .slice A8 ov.length c8, .bool od] from TA.out.get (i := 1) rfl) 3
      have q3 := Blk.cell (show Blk wr g6 _ #[.string ⟨#[]⟩, .int .i64 0, .slice none 0 0, .bool false] from TA.out.get (i := 0) rfl) 3
      have f3 := Blk.frozen (show Blk wr g6 _ #[.string ⟨#[]⟩, .int .i64 0, .slice none 0 0, .bool false] from TA.out.get (i := 0) rfl) 3
      simp only [List.getElem?_toArray, List.getElem?_cons_zero, List.getElem?_cons_succ] at q0 q1 q2 q3 y0 y1 y2 y3
      have hne : g6 ≠ g8 := by
        have h1 := hT.p.2
        simp only [List.pairwise_cons] at h1
        intro h
        exact h1.1 _ (List.mem_cons_self ..) g6 rfl h
      have HBB := Lib.hid hb
      have HO := Lib.hid ho
      clear hov hT hH hb ho
      have t1 := TA.out.step (i := 0) rfl (Turn.cell (TA.out.get (i := 0) rfl) 0 (.string ok_))
      have t2 := t1.step (i := 0) rfl (Turn.cell (t1.get (i := 0) rfl) 1 (.int .i64 os))
      have t3 := t2.step (i := 0) rfl (Turn.cell (t2.get (i := 0) rfl) 2 (.slice A8 ov.length c8))
      have t4 := t3.step (i := 0) rfl (Turn.cell (t3.get (i := 0) rfl) 3 (.bool od))
      have hz : ∀ W, W = (((wr.setCell ⟨g6, 0, none⟩ (.string ok_)).setCell ⟨g6, 1, none⟩ (.int .i64 os)).setCell ⟨g6, 2, none⟩ (.slice A8 ov.length c8)).setCell ⟨g6, 3, none⟩ (.bool od) → W.cell? ⟨g6, 0, none⟩ = some (.string ok_) ∧ W.cell? ⟨g6, 1, none⟩ = some (.int .i64 os) ∧ W.cell? ⟨g6, 2, none⟩ = some (.slice A8 ov.length c8) ∧ W.cell? ⟨g6, 3, none⟩ = some (.bool od) ∧ NewPost o w (.returned (.tuple #[.agg #[.string ok_, .int .i64 os, .slice A8 ov.length c8, .bool od], .bool b])) W := fun W hW => by
        rw [hW]
        have h : Blk _ g6 _ #[.string ok_, .int .i64 os, .slice A8 ov.length c8, .bool od] := t4.get (i := 0) rfl
        have r0 := Blk.cell h 0
        have r1 := Blk.cell h 1
        have r2 := Blk.cell h 2
        have r3 := Blk.cell h 3
        simp only [List.getElem?_toArray, List.getElem?_cons_zero, List.getElem?_cons_succ] at r0 r1 r2 r3
        exact ⟨r0, r1, r2, r3, ⟨A8, c8, by rw [← HOV.out, HBB.out]; rfl⟩, t4.free⟩
      have HZ := Lib.hid hz
      clear TA t1 t2 t3 t4 hz
      go_wp2
      obtain ⟨W, hW⟩ : ∃ W, W = (((wr.setCell ⟨g6, 0, none⟩ (.string ok_)).setCell ⟨g6, 1, none⟩ (.int .i64 os)).setCell ⟨g6, 2, none⟩ (.slice A8 ov.length c8)).setCell ⟨g6, 3, none⟩ (.bool od) := ⟨_, rfl⟩
      obtain ⟨r0, r1, r2, r3, hr⟩ := HZ.out W hW
      rw [← hW]
      clear hW HZ
      refine bodyPost_ret (v := .tuple #[.agg #[.string ok_, .int .i64 os, .slice A8 ov.length c8, .bool od], .bool b]) ?_ rfl (by rw [← HO.out]; exact hr)
      simp [results, Try.results83, go_sem, r0, r1, r2, r3]
set_option maxRecDepth 100000 in
set_option maxHeartbeats 1600000 in
theorem rlast_any {w : World} {B : Nat} {A : Option Addr} {c : Nat} {l : List Vn} (hS : kVn.Sl w B A l) (hB : B ≤ w.heap.size) (hl : l.length ≤ 1099511627776) (key : ByteArray) :
    Calls Try.prog 43 #[.slice A l.length c, .string key] w (NewPost (newL l key 4611686018427387904) w) := by
  obtain ⟨w1, hw1⟩ : ∃ x, x = w.alloc (.cells #[.string ⟨#[]⟩, .int .i64 0, .slice none 0 0, .bool false] 88) := ⟨_, rfl⟩
  have hb1 : Below w.heap.size w w1 := by rw [hw1]; exact (Below.refl _ _).alloc (Nat.le_refl _) _
  have t1 : Turn (Item.all []) w (Item.all [Item.blk w.heap.size 88 #[.string ⟨#[]⟩, .int .i64 0, .slice none 0 0, .bool false]]) w1 := by
    rw [hw1]
    exact (Turn.none_ (w := w)).more (y := Item.blk w.heap.size 88 #[.string ⟨#[]⟩, .int .i64 0, .slice none 0 0, .bool false]) ((Below.refl _ _).alloc (Nat.le_refl _) _) (Blk.new _ _ _) (fun k hk => Nat.le_of_eq hk.symm)
  have HNW := Lib.hid (rnewest_any (w := w1) (c := c) (hS.keep (fun p hp => hb1.cell (Nat.lt_of_lt_of_le hp hB))) (Nat.le_trans hB hb1.size) hl key 4611686018427387904)
  have HW1 := Lib.hid hw1
  have T1 := Lib.hid t1
  obtain ⟨N, hN⟩ : ∃ N, N = l.length := ⟨_, rfl⟩
  rw [← hN] at HNW ⊢
  clear hS hN hw1 hb1 t1
  go_enter Try.func43, Try.ntmps43
  go_wp2_with fail
  rw [← HW1.out]
  refine HNW.out.mono ?_
  rintro e w2 ⟨⟨A8, c8, rfl⟩, hb⟩
  obtain ⟨o, ho⟩ : ∃ o, o = newL l key 4611686018427387904 := ⟨_, rfl⟩
  rw [← ho]
  obtain ⟨⟨ok_, os, ov, od⟩, hov⟩ : ∃ v, v = o.getD vz := ⟨_, rfl⟩
  have HO := Lib.hid ho
  have HOV := Lib.hid hov
  rw [← hov, show Vn.cells ⟨ok_, os, ov, od⟩ A8 c8 = #[.string ok_, .int .i64 os, .slice A8 ov.length c8, .bool od] from rfl]
  obtain ⟨b, hb_⟩ : ∃ b, b = o.isSome := ⟨_, rfl⟩
  have HBB := Lib.hid hb_
  rw [← hb_]
  have TA := Lib.hid (T1.out.go hb)
  have q0 := Blk.cell (show Blk w2 w.heap.size _ #[.string ⟨#[]⟩, .int .i64 0, .slice none 0 0, .bool false] from TA.out.get (i := 0) rfl) 0
  have f0 := Blk.frozen (show Blk w2 w.heap.size _ #[.string ⟨#[]⟩, .int .i64 0, .slice none 0 0, .bool false] from TA.out.get (i := 0) rfl) 0
  have q1 := Blk.cell (show Blk w2 w.heap.size _ #[.string ⟨#[]⟩, .int .i64 0, .slice none 0 0, .bool false] from TA.out.get (i := 0) rfl) 1
  have f1 := Blk.frozen (show Blk w2 w.heap.size _ #[.string ⟨#[]⟩, .int .i64 0, .slice none 0 0, .bool false] from TA.out.get (i := 0) rfl) 1
  have q2 := Blk.cell (show Blk w2 w.heap.size _ #[.string ⟨#[]⟩, .int .i64 0, .slice none 0 0, .bool false] from TA.out.get (i := 0) rfl) 2
  have f2 := Blk.frozen (show Blk w2 w.heap.size _ #[.string ⟨#[]⟩, .int .i64 0, .slice none 0 0, .bool false] from TA.out.get (i := 0) rfl) 2
  have q3 := Blk.cell (show Blk w2 w.heap.size _ #[.string ⟨#[]⟩, .int .i64 0, .slice none 0 0, .bool false] from TA.out.get (i := 0) rfl) 3
  have f3 := Blk.frozen (show Blk w2 w.heap.size _ #[.string ⟨#[]⟩, .int .i64 0, .slice none 0 0, .bool false] from TA.out.get (i := 0) rfl) 3
  simp only [List.getElem?_toArray, List.getElem?_cons_zero, List.getElem?_cons_succ] at q0 q1 q2 q3
  have t1 := TA.out.step (i := 0) rfl (Turn.cell (TA.out.get (i := 0) rfl) 0 (.string ok_))
  have t2 := t1.step (i := 0) rfl (Turn.cell (t1.get (i := 0) rfl) 1 (.int .i64 os))
  have t3 := t2.step (i := 0) rfl (Turn.cell (t2.get (i := 0) rfl) 2 (.slice A8 ov.length c8))
  have t4 := t3.step (i := 0) rfl (Turn.cell (t3.get (i := 0) rfl) 3 (.bool od))
  have hz : ∀ W, W = (((w2.setCell ⟨w.heap.size, 0, none⟩ (.string ok_)).setCell ⟨w.heap.size, 1, none⟩ (.int .i64 os)).setCell ⟨w.heap.size, 2, none⟩ (.slice A8 ov.length c8)).setCell ⟨w.heap.size, 3, none⟩ (.bool od) → W.cell? ⟨w.heap.size, 0, none⟩ = some (.string ok_) ∧ W.cell? ⟨w.heap.size, 1, none⟩ = some (.int .i64 os) ∧ W.cell? ⟨w.heap.size, 2, none⟩ = some (.slice A8 ov.length c8) ∧ W.cell? ⟨w.heap.size, 3, none⟩ = some (.bool od) ∧ NewPost o w (.returned (.tuple #[.agg #[.string ok_, .int .i64 os, .slice A8 ov.length c8, .bool od], .bool b])) W := fun W hW => by
    rw [hW]
    have h : Blk _ w.heap.size _ #[.string ok_, .int .i64 os, .slice A8 ov.length c8, .bool od] := t4.get (i := 0) rfl
    have r0 := Blk.cell h 0
    have r1 := Blk.cell h 1
    have r2 := Blk.cell h 2
    have r3 := Blk.cell h 3
    simp only [List.getElem?_toArray, List.getElem?_cons_zero, List.getElem?_cons_succ] at r0 r1 r2 r3
    exact ⟨r0, r1, r2, r3, ⟨A8, c8, by rw [← HOV.out, HBB.out]; rfl⟩, t4.free⟩
  have HZ := Lib.hid hz
  clear TA t1 t2 t3 t4 hz hb HNW T1 HW1 hb_ hov ho
  go_wp2
  obtain ⟨W, hW⟩ : ∃ W, W = (((w2.setCell ⟨w.heap.size, 0, none⟩ (.string ok_)).setCell ⟨w.heap.size, 1, none⟩ (.int .i64 os)).setCell ⟨w.heap.size, 2, none⟩ (.slice A8 ov.length c8)).setCell ⟨w.heap.size, 3, none⟩ (.bool od) := ⟨_, rfl⟩
  obtain ⟨r0, r1, r2, r3, hr⟩ := HZ.out W hW
  try rw [← hW]
  refine bodyPost_ret (v := .tuple #[.agg #[.string ok_, .int .i64 os, .slice A8 ov.length c8, .bool od], .bool b]) ?_ rfl (by rw [← HO.out]; exact hr)
  simp [results, Try.results43, go_sem, r0, r1, r2, r3]
end Go.Proofs.Ytmnpchncmbnddaa
/- The reference's store: Apply, by contract. -/
namespace Go.Proofs.Ytmnpchncmbnddaa
open Go.RowKit

/-- Apply, as the reference does it. -/
def appRS (R : List Vn) (v : Vn) : List Vn × Int := if v.bad ≠ 0 then (R, v.bad) else if ∃ o, newL R v.key 4611686018427387904 = some o ∧ v.stamp ≤ o.stamp then (R, 130) else (R ++ [v], 0)
theorem hv_ones (hs : List Hv) : ∀ u ∈ hvCells hs, u.oneCell' = true := by
  intro u hu
  unfold hvCells at hu
  obtain ⟨t, _, h⟩ := List.mem_flatMap.1 hu
  simp only [Vn.cells, List.mem_cons, List.not_mem_nil, or_false] at h
  rcases h with rfl | rfl | rfl | rfl <;> rfl
end Go.Proofs.Ytmnpchncmbnddaa
/- The reference's store: Keys, by contract. -/
namespace Go.Proofs.Ytmnpchncmbnddaa
open Go.RowKit Go.Sort Go.Shelf

theorem encStr_key (key : ByteArray) : encStr key.data.toList = .string key := by
  unfold encStr
  rw [Array.toArray_toList]
def sortK (ks : List Key) : List Key := ks.mergeSort fun x y => decide (x ≤ y)
theorem sortK_len (ks : List Key) : (sortK ks).length = ks.length := List.length_mergeSort _
theorem strings_any {w : World} {v : Value} {n : Nat} {ks : List Key} (h : (Item.rowT 9 1 v n (ks.map encStr)).P w) (hn : n = ks.length) (hl : n ≤ 1099511627776) :
    Calls Try.prog 82 #[v] w fun e w' => e = .returned (.tuple #[]) ∧ Turn (Item.rowT 9 1 v n (ks.map encStr)) w (Item.rowT 9 1 v n ((sortK ks).map encStr)) w' := by
  have hrow : w.ownsRow 0 9 1 v n (ks.map encStr) := h
  subst hn
  rcases hrow.2 with ⟨hv, h0⟩ | ⟨g, cap, cur, rfl, hbase, hb, h1, h2, h3, h4⟩
  · have hk : ks = [] := List.length_eq_zero_iff.1 h0
    subst hk
    obtain ⟨A1, c1, rfl, _, _⟩ := own_slice hrow
    refine (Any.sort_Strings_none Try.stringsL A1 c1 w).mono ?_
    rintro e w' ⟨rfl, rfl⟩
    rw [show sortK ([] : List Key) = [] from by unfold sortK; simp]
    exact ⟨rfl, Turn.refl h⟩
  · refine (Any.sort_Strings Try.stringsL g 0 cap ks w (holds_of_block hb (by simpa using h4)) (Array.getElem?_eq_some_iff.1 hb).1 (by omega)).mono ?_
    rintro e w' ⟨rfl, m, os, rfl⟩
    refine ⟨rfl, Turn.rowT ?_ (grownBy_sorted _) (.inl rfl)⟩
    exact ownsRow_sorted (sortK_len ks) hbase hb h1 h2 h3
/-- One behind the other, without those that are the same. -/
def ddK (l : List Key) : List Key := l.foldl (fun acc k => if acc.getLast? = some k then acc else acc ++ [k]) []
theorem ddK_snoc (l : List Key) (k : Key) : ddK (l ++ [k]) = if (ddK l).getLast? = some k then ddK l else ddK l ++ [k] := by
  unfold ddK
  rw [List.foldl_append]; rfl
theorem ddK_last : ∀ (l : List Key), (ddK l).getLast? = l.getLast? := fun l => by
  rcases List.eq_nil_or_concat l with rfl | ⟨m, k, rfl⟩
  · rfl
  · rw [List.concat_eq_append, ddK_snoc]
    split
    · rename_i h; rw [h, List.getLast?_concat]
    · rw [List.getLast?_concat, List.getLast?_concat]
theorem ddK_mem : ∀ (l : List Key) (x : Key), x ∈ ddK l ↔ x ∈ l := fun l => by
  generalize hn : l.length = n
  induction n generalizing l with
  | zero => intro x; rw [List.length_eq_zero_iff.1 hn]; rfl
  | succ n ih =>
    intro x
    rcases List.eq_nil_or_concat l with rfl | ⟨m, k, rfl⟩
    · cases hn
    · rw [List.concat_eq_append] at hn ⊢
      have hm : m.length = n := by rw [List.length_append, List.length_singleton] at hn; omega
      rw [ddK_snoc]
      split
      · rename_i h
        rw [ih m hm, List.mem_append, List.mem_singleton]
        constructor
        · exact .inl
        · rintro (h2 | rfl)
          · exact h2
          · exact (ih m hm _).1 (List.mem_of_getLast? h)
      · rw [List.mem_append, List.mem_append, ih m hm]
theorem ddK_up : ∀ (l : List Key), (l.Pairwise fun a b => a ≤ b) → (ddK l).Pairwise fun a b => bytesBefore a b = true := fun l => by
  generalize hn : l.length = n
  induction n generalizing l with
  | zero => intro _; rw [List.length_eq_zero_iff.1 hn]; exact List.Pairwise.nil
  | succ n ih =>
    intro hp
    rcases List.eq_nil_or_concat l with rfl | ⟨m, k, rfl⟩
    · cases hn
    · rw [List.concat_eq_append] at hn hp ⊢
      have hm : m.length = n := by rw [List.length_append, List.length_singleton] at hn; omega
      obtain ⟨p1, _, p3⟩ := List.pairwise_append.1 hp
      rw [ddK_snoc]
      split
      · exact ih m hm p1
      · rename_i h
        refine List.pairwise_append.2 ⟨ih m hm p1, List.pairwise_singleton _ _, fun a ha b hb => ?_⟩
        rw [List.mem_singleton.1 hb]
        have ham := (ddK_mem m a).1 ha
        have hle := p3 a ham k (List.mem_singleton_self _)
        have hne : a ≠ k := by
          intro e
          rw [e] at ha ham
          have hmn : m ≠ [] := List.ne_nil_of_mem ham
          apply h
          rw [ddK_last, List.getLast?_eq_some_getLast hmn]
          congr 1
          have h1 := p3 (m.getLast hmn) (List.getLast_mem hmn) k (List.mem_singleton_self _)
          have h2 : k ≤ m.getLast hmn := by
            rw [← List.dropLast_concat_getLast hmn] at ham p1
            rcases List.mem_append.1 ham with h3 | h3
            · exact (List.pairwise_append.1 p1).2.2 k h3 _ (List.mem_singleton_self _)
            · rw [List.mem_singleton.1 h3]; exact List.le_refl _
          exact List.le_antisymm h1 h2
        rcases bB_total hne with h3 | h3
        · exact h3
        · exact absurd (bB_lt.1 h3) (List.not_lt.2 hle)
/-- The keys of a list of versions, rising. -/
def keysR (R : List Vn) : List Key := ddK (sortK (R.map Vn.k))
theorem keysR_up (R : List Vn) : (keysR R).Pairwise fun a b => bytesBefore a b = true := by
  refine ddK_up _ ?_
  have h1 := List.pairwise_mergeSort (le := fun x y : Key => decide (x ≤ y)) (fun a b c h1 h2 => by simp only [decide_eq_true_eq] at *; exact List.le_trans h1 h2) (fun a b => by simp only [Bool.or_eq_true, decide_eq_true_eq]; exact List.le_total a b) (R.map Vn.k)
  exact h1.imp fun h => of_decide_eq_true h
theorem keysR_mem (R : List Vn) (k : Key) : k ∈ keysR R ↔ ∃ v ∈ R, v.k = k := by
  unfold keysR
  rw [ddK_mem]
  unfold sortK
  rw [(List.mergeSort_perm _ _).mem_iff, List.mem_map]
theorem rising_one : ∀ {l m : List Key}, (l.Pairwise fun a b => bytesBefore a b = true) → (m.Pairwise fun a b => bytesBefore a b = true) → (∀ x, x ∈ l ↔ x ∈ m) → l = m := fun {l m} h1 h2 h => by
  refine List.Perm.eq_of_pairwise (le := fun x y : Key => x ≤ y) (fun a b _ _ hab hba => List.le_antisymm hab hba) (h1.imp fun {a b} h => List.le_of_lt (bB_lt.1 h)) (h2.imp fun {a b} h => List.le_of_lt (bB_lt.1 h)) ?_
  have n1 : l.Nodup := h1.imp fun {a b} h e => by rw [e, bB_irrefl] at h; cases h
  have n2 : m.Nodup := h2.imp fun {a b} h e => by rw [e, bB_irrefl] at h; cases h
  exact (List.perm_ext_iff_of_nodup n1 n2).2 h
end Go.Proofs.Ytmnpchncmbnddaa
/- The reference's store: Keys, the walk. -/
namespace Go.Proofs.Ytmnpchncmbnddaa
open Go.RowKit Go.Sort Go.Shelf

theorem info_str : (Try.prog.info? 9).map (fun i => (i.zero, i.size, i.bytes)) = some (some (.string ⟨#[]⟩), 1, 16) := by kernel_rfl
def KeyPost (l : List Vn) (w : World) (e : Ending) (w' : World) : Prop :=
  ∃ (A' : Option Addr) (n c' : Nat), n = (keysR l).length ∧ e = .returned (.slice A' n c') ∧ Turn (Item.all []) w (Item.all [Item.rowT 9 1 (.slice A' n c') n ((keysR l).map encStr)]) w'
/-- What holds in the second loop: so many of the sorted keys are looked at. -/
def KeyIn (w : World) (ks : List Key) (A : Option Addr) (N c K m c' : Nat) (A' : Option Addr) (wr : World) : Prop :=
  (ddK (ks.take K)).length = m ∧ Turn (Item.all []) w (Item.all [Item.rowT 9 1 (.slice A N c) N (ks.map encStr), Item.rowT 9 1 (.slice A' m c') m ((ddK (ks.take K)).map encStr)]) wr
set_option maxRecDepth 100000 in
set_option maxHeartbeats 12800000 in
theorem rkeys_any {w : World} {B : Nat} {A : Option Addr} {c : Nat} {l : List Vn} (hS : kVn.Sl w B A l) (hB : B ≤ w.heap.size) (hl : l.length ≤ 1000000000) :
    Calls Try.prog 42 #[.slice A l.length c] w (KeyPost l w) := by
  have HS := Lib.hid hS
  have HB0 := Lib.hid hB
  obtain ⟨N, hN⟩ : ∃ N, N = l.length := ⟨_, rfl⟩
  have HN := Lib.hid hN
  rw [← hN] at hl ⊢
  have T0 := Lib.hid (show Turn (Item.all []) w (Item.all [Item.rowT 9 1 (.slice none 0 0) 0 (((l.take 0).map Vn.k).map encStr)]) w from (Turn.none_ (w := w)).more (Below.refl _ _) (World.ownsRow_nil _ _ _ _) (fun k hk => by cases hk))
  clear hS hB hN
  go_enter Try.func42, Try.ntmps42
  go_wp2
  go_loopw [11, 3] (fun t u wr => ∃ (K c' : Nat) (A' : Option Addr), t = .int .i64 K ∧ u = .slice A' K c' ∧ K ≤ N ∧ Hid (Turn (Item.all []) w (Item.all [Item.rowT 9 1 (.slice A' K c') K (((l.take K).map Vn.k).map encStr)]) wr)) (fun t _ _ => N - (intOf t).toNat)
  case atStart => exact ⟨0, 0, none, rfl, rfl, Nat.zero_le _, T0⟩
  case round =>
    clear T0
    obtain ⟨K, c', A', rfl, rfl, hK, hH⟩ := hrel
    by_cases hlt : (K : Int) < (N : Int)
    · have hKl : K < l.length := by have := HN.out; omega
      have hKi : K + 1 ≤ N := by omega
      have hbw := hH.out.free
      obtain ⟨bb, off, Av, cv, hA, hbb, hints, s0, s1, s2, s3, hval, hvc⟩ := vn_at (HS.out.keep (fun p hp => hbw.cell (Nat.lt_of_lt_of_le hp HB0.out))) hKl
      subst hA
      obtain ⟨x, hx⟩ : ∃ x, x = l[K] := ⟨_, rfl⟩
      rw [← hx] at s0 s1 s2 s3
      have HX := Lib.hid hx
      obtain ⟨xk, xs, xv, xd⟩ := x
      simp only at s0 s1 s2 s3
      have hbr : bb < wr.heap.size := Nat.lt_of_lt_of_le (Nat.lt_of_lt_of_le hbb HB0.out) hbw.size
      obtain ⟨w2, hw2⟩ : ∃ y, y = wr.alloc (.cells #[.string xk, .int .i64 xs, .slice Av xv.length cv, .bool xd] 88) := ⟨_, rfl⟩
      have HW2 := Lib.hid hw2
      have T2 := Lib.hid (show Turn (Item.all []) w (Item.all [Item.rowT 9 1 (.slice A' K c') K (((l.take K).map Vn.k).map encStr)]) w2 from by rw [hw2]; exact hH.out.go ((Below.refl _ _).alloc (Nat.le_refl _) _))
      have hq0 : w2.cell? ⟨wr.heap.size, 0, none⟩ = some (.string xk) := by
        rw [hw2]
        have := Blk.cell (Blk.new wr 88 #[.string xk, .int .i64 xs, .slice Av xv.length cv, .bool xd]) 0
        simpa using this
      clear hx hval hvc hints hbb hbw
      go_upto_region 5 with fail
      rw [← HW2.out]
      clear s0 s1 s2 s3 hbr hw2
      go_wp2_with (at_builtin; refine Stop.of ?_)
      have T3 := Lib.hid (T2.out.go ((Below.refl w2.heap.size w2).alloc (Nat.le_refl _) (.cells #[.string xk] 9)))
      refine ⟨wpList_append_any _ rfl rfl 0 Try.underlying89 info_str rfl (by decide) (by decide) rfl (T3.out.get (i := 0) rfl) rfl (fresh_src (Blk.new w2 9 #[.string xk]) Try.underlying89 rfl (by decide) rfl) (by omega) (Nat.zero_le _) ?_⟩
      intro v' w3 ho hg hf
      have t4 := T3.out.step (i := 0) rfl (Turn.rowT (v := .slice A' K c') (n := K) (xs := ((l.take K).map Vn.k).map encStr) ho hg hf)
      obtain ⟨A3, c3, rfl, _, _⟩ := own_slice ho
      have HR := Lib.hid (show Turn (Item.all []) w (Item.all [Item.rowT 9 1 (.slice A3 (K + 1) c3) (K + 1) (((l.take (K + 1)).map Vn.k).map encStr)]) w3 from by
        have hK3 : K < l.length := by have := HN.out; omega
        rw [List.take_succ_eq_append_getElem hK3, List.map_append, List.map_append, ← HX.out, List.map_singleton, List.map_singleton, show encStr (Vn.k ⟨xk, xs, xv, xd⟩) = .string xk from encStr_key xk]
        exact t4)
      clear ho hg hf t4 T2 T3 hH HX hq0 HW2
      go_wp2
      exact ⟨⟨K + 1, c3, A3, by go_num, rfl, hKi, HR⟩, by simp [intOf]; omega⟩
    · obtain rfl : K = N := by omega
      have T5 := Lib.hid hH.out
      rw [List.take_of_length_le (by rw [← HN.out]; exact Nat.le_refl _)] at T5
      clear hH
      have HST := Lib.hid (strings_any (ks := l.map Vn.k) (T5.out.get (i := 0) rfl) (by rw [List.length_map, ← HN.out]) (by omega))
      go_wp2_with fail
      refine HST.out.mono ?_
      rintro e w6 ⟨rfl, t6⟩
      obtain ⟨ks, hks⟩ : ∃ ks, ks = sortK (l.map Vn.k) := ⟨_, rfl⟩
      rw [← hks] at t6
      have HKS := Lib.hid hks
      have HKL := Lib.hid (show ks.length = K from by rw [hks, sortK_len, List.length_map, ← HN.out])
      have T6 := Lib.hid (show KeyIn w ks A' K c' 0 0 0 none w6 from ⟨rfl, ((T5.out.step (i := 0) rfl t6).more (y := Item.rowT 9 1 (.slice none 0 0) 0 []) (Below.refl _ _) (World.ownsRow_nil _ _ _ _) (fun k hk => by cases hk)).by_ 2 rfl [1, 0] (by decide)⟩)
      clear t6 hks HST T5
      go_wp2
      go_loopw [25, 6] (fun t u wr => ∃ (K2 m c2 : Nat) (A2 : Option Addr), t = .int .i64 K2 ∧ u = .slice A2 m c2 ∧ K2 ≤ K ∧ m ≤ K2 ∧ Hid (KeyIn w ks A' K c' K2 m c2 A2 wr)) (fun t _ _ => K - (intOf t).toNat)
      case atStart => exact ⟨0, 0, 0, none, rfl, rfl, Nat.zero_le _, Nat.le_refl _, T6⟩
      case round =>
        clear T6
        obtain ⟨K2, m, c2, A2, rfl, rfl, hK2, hm2, hH⟩ := hrel
        by_cases hlt2 : (K2 : Int) < (K : Int)
        · have hKl : K2 < ks.length := by have := HKL.out; omega
          have hKi : K2 + 1 ≤ K := by omega
          have HLN := Lib.hid hH.out.1
          have T7 := Lib.hid hH.out.2
          obtain ⟨bb, off, hA, hbb, hcell⟩ := (Reads.of_own (T7.out.get (i := 0) rfl)).2 (by omega)
          subst hA
          have HC := Lib.hid hcell
          obtain ⟨kk, hkk⟩ : ∃ k, k = ks[K2] := ⟨_, rfl⟩
          have HKK := Lib.hid hkk
          have r0 : wr.cell? ⟨bb, off + K2, none⟩ = some (.string ⟨kk.toArray⟩) := hcell K2 _ (by rw [List.getElem?_map, List.getElem?_eq_getElem hKl, hkk]; rfl)
          have HTK := Lib.hid (show ks.take (K2 + 1) = ks.take K2 ++ [kk] from by rw [hkk]; exact List.take_succ_eq_append_getElem hKl)
          clear hcell hkk hH
          rcases Nat.eq_zero_or_pos K2 with hz | hz
          · subst hz
            have hm0 : m = 0 := by omega
            subst hm0
            have r00 : wr.cell? ⟨bb, off, none⟩ = some (.string ⟨kk.toArray⟩) := r0
            clear r0
            have HD := Lib.hid (show ddK (ks.take (0 + 1)) = ddK (ks.take 0) ++ [kk] from by rw [HTK.out, ddK_snoc, if_neg (by simp [ddK])])
            go_wp2_with (at_builtin; refine Stop.of ?_)
            have T8 := Lib.hid (T7.out.go ((Below.refl wr.heap.size wr).alloc (Nat.le_refl _) (.cells #[.string ⟨kk.toArray⟩] 9)))
            refine ⟨wpList_append_any _ rfl rfl 0 Try.underlying89 info_str rfl (by decide) (by decide) rfl (T8.out.get (i := 1) rfl) rfl (fresh_src (Blk.new wr 9 #[.string ⟨kk.toArray⟩]) Try.underlying89 rfl (by decide) rfl) (by omega) (Nat.zero_le _) ?_⟩
            intro v' w8 ho hg hf
            have t9 := T8.out.step (i := 1) rfl (Turn.rowT (v := .slice A2 0 c2) (n := 0) (xs := (ddK (ks.take 0)).map encStr) ho hg hf)
            obtain ⟨A9, c9, rfl, _, _⟩ := own_slice ho
            have HRE := Lib.hid (show KeyIn w ks (some ⟨bb, off, none⟩) K c' (0 + 1) (0 + 1) c9 A9 w8 from by
              unfold KeyIn
              rw [HD.out]
              exact ⟨by rw [List.length_append, HLN.out]; rfl, by rw [List.map_append]; exact t9⟩)
            clear ho hg hf t9 T7 T8 HC
            go_wp2
            exact ⟨⟨0 + 1, 0 + 1, c9, A9, by go_num, rfl, hKi, by omega, HRE⟩, by simp [intOf]; omega⟩
          · obtain ⟨J, hJ⟩ : ∃ J, K2 = J + 1 := ⟨K2 - 1, by omega⟩
            have hJl : J < ks.length := by omega
            obtain ⟨kj, hkj⟩ : ∃ k, k = ks[J] := ⟨_, rfl⟩
            have r1 : wr.cell? ⟨bb, off + J, none⟩ = some (.string ⟨kj.toArray⟩) := HC.out J _ (by rw [List.getElem?_map, List.getElem?_eq_getElem hJl, hkj]; rfl)
            have HLA := Lib.hid (show (ddK (ks.take K2)).getLast? = some kj from by
              rw [ddK_last, hJ, List.take_succ_eq_append_getElem hJl, List.getLast?_concat, hkj])
            have hJn : J < K2 := by omega
            have hJN : J < K := by omega
            have hJw : IntKind.i64.wrap ((K2 : Int) - 1) = (J : Int) := by rw [IntKind.wrap_i64]; omega
            have hJ1 : (K2 : Int) - 1 = (J : Int) := by omega
            have hJi : (J : Int) < (K : Int) := by omega
            have hJw2 : IntKind.i64.wrap (J : Int) = (J : Int) := by rw [IntKind.wrap_i64]; omega
            have hJ0 : (0 : Int) ≤ (J : Int) := by omega
            have f1 : ((K2 : Int) == 0) = false := beq_false_of_ne (by omega)
            have f2 : decide ((K2 : Int) = 0) = false := decide_eq_false (by omega)
            have f3 : decide (K2 = 0) = false := decide_eq_false (by omega)
            clear hz hJ hJl hkj
            cases hE : (kj == kk) with
            | true =>
              have HRE := Lib.hid (show KeyIn w ks (some ⟨bb, off, none⟩) K c' (K2 + 1) m c2 A2 wr from by
                have h1 : ddK (ks.take (K2 + 1)) = ddK (ks.take K2) := by rw [HTK.out, ddK_snoc, if_pos (by rw [HLA.out, beq_iff_eq.1 hE])]
                unfold KeyIn
                rw [h1]
                exact ⟨HLN.out, T7.out⟩)
              clear T7 HC
              go_wp2
              exact ⟨⟨K2 + 1, m, c2, A2, by go_num, rfl, hKi, by omega, HRE⟩, by simp [intOf]; omega⟩
            | false =>
              have HD := Lib.hid (show ddK (ks.take (K2 + 1)) = ddK (ks.take K2) ++ [kk] from by rw [HTK.out, ddK_snoc, if_neg (by rw [HLA.out]; intro h; injection h with h; rw [h, beq_self_eq_true] at hE; cases hE)])
              go_wp2_with (at_builtin; refine Stop.of ?_)
              have T8 := Lib.hid (T7.out.go ((Below.refl wr.heap.size wr).alloc (Nat.le_refl _) (.cells #[.string ⟨kk.toArray⟩] 9)))
              refine ⟨wpList_append_any _ rfl rfl 0 Try.underlying89 info_str rfl (by decide) (by decide) rfl (T8.out.get (i := 1) rfl) rfl (fresh_src (Blk.new wr 9 #[.string ⟨kk.toArray⟩]) Try.underlying89 rfl (by decide) rfl) (by omega) (Nat.zero_le _) ?_⟩
              intro v' w8 ho hg hf
              have t9 := T8.out.step (i := 1) rfl (Turn.rowT (v := .slice A2 m c2) (n := m) (xs := (ddK (ks.take K2)).map encStr) ho hg hf)
              obtain ⟨A9, c9, rfl, _, _⟩ := own_slice ho
              have HRE := Lib.hid (show KeyIn w ks (some ⟨bb, off, none⟩) K c' (K2 + 1) (m + 1) c9 A9 w8 from by
                unfold KeyIn
                rw [HD.out]
                exact ⟨by rw [List.length_append, HLN.out]; rfl, by rw [List.map_append]; exact t9⟩)
              clear ho hg hf t9 T7 T8 HC
              go_wp2
              exact ⟨⟨K2 + 1, m + 1, c9, A9, by go_num, rfl, hKi, by omega, HRE⟩, by simp [intOf]; omega⟩
        · obtain rfl : K2 = K := by omega
          have HRE := Lib.hid (show KeyPost l w (.returned (.slice A2 m c2)) wr from by
            have h1 := hH.out.1
            have h2 := hH.out.2
            rw [List.take_of_length_le (by rw [HKL.out]; exact Nat.le_refl _)] at h1 h2
            rw [HKS.out] at h1 h2
            exact ⟨A2, m, c2, h1.symm, rfl, h2.sub (List.Sublist.cons _ (List.Sublist.refl _))⟩)
          clear hH
          go_wp2
          go_ret
          exact HRE.out
end Go.Proofs.Ytmnpchncmbnddaa
