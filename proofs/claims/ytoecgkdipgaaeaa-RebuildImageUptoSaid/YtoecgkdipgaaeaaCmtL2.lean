/- CommitEntries: the walk. -/
import Derived.Test.YtoecgkdipgaaeaaG17
set_option linter.all false
set_option linter.unusedVariables false
set_option linter.unusedSimpArgs false
set_option linter.unnecessarySimpa false
namespace Go.Proofs.Ytoecgkdipgaaeaa
open Go.RowKit

def gV (A : Option Addr) (n c : Nat) (hs : List Hv) : Item := Item.all (Item.rowT 33 4 (.slice A n c) n (hvCells hs) :: hvRows hs)
def gE (A : Option Addr) (n c : Nat) (ts : List Told) : Item := Item.all (Item.rowT 31 6 (.slice A n c) n (toldCells ts) :: toldRows ts)
theorem opens_vns : Opens (kSlice kVn) 23 := opens_slice (by kernel_rfl) Try.underlying23 opens_vn (by decide) (of_decide_eq_true (by kernel_rfl))
theorem vns_bulk : ∀ (l : List Vn), 4 * l.length + 1 ≤ (kSlice kVn).bulk l ∧ ∀ e ∈ l, e.key.size + e.value.length ≤ (kSlice kVn).bulk l
  | [] => ⟨Nat.le_refl _, fun e he => by cases he⟩
  | x :: l => by
    obtain ⟨h1, h2⟩ := vns_bulk l
    have e1 : (kSlice kVn).bulk (x :: l) = kVn.bulk x + (kSlice kVn).bulk l := by
      show (kVn.bulk x :: l.map kVn.bulk).sum + 1 = kVn.bulk x + ((l.map kVn.bulk).sum + 1)
      rw [List.sum_cons]; omega
    have h3 : 4 ≤ kVn.bulk x := by
      show 4 ≤ (x.key.size + 1) + (1 + ((x.value.length + 1) + 1)); omega
    have h4 := vn_bulk x
    refine ⟨by rw [e1, List.length_cons]; omega, fun e he => ?_⟩
    rw [e1]
    rcases List.mem_cons.1 he with rfl | he
    · omega
    · have := h2 e he; omega
theorem sl_ints {w : World} {B : Nat} {A : Option Addr} {l : List Vn} (h : kVn.Sl w B A l) : ∀ v ∈ l, v.ints := fun v hv => by
  obtain ⟨i, hi, rfl⟩ := List.mem_iff_getElem.1 hv
  obtain ⟨_, _, _, _, _, _, h, _⟩ := vn_at h hi
  exact h
theorem ents_ints {l : List Vn} {n : Int} (h0 : -9223372036854775808 ≤ n) (h1 : n ≤ 9223372036854775807) (hl : l.length ≤ 1048576) : ∀ e ∈ entsF l n, e.ints := fun e he => by
  rcases List.mem_append.1 he with he | he
  · obtain ⟨v, _, rfl⟩ := List.mem_map.1 he
    unfold Vn.ofWrite En.ints
    split <;> simp
  · simp only [List.mem_cons, List.not_mem_nil, or_false] at he
    subst he
    unfold En.ints
    simp only
    omega
/-- No slice is longer than M. -/
def RbMax (M : Nat) (bs : List Rb) : Prop := ∀ (i : Nat) (b : Rb), bs[i]? = some b → b.l.length ≤ M
def RbFrom (M K : Nat) (bs : List Rb) : Prop := ∀ (i : Nat) (b : Rb), bs[i]? = some b → K ≤ i → b.l.length ≤ M
theorem gB_drop {w w' : World} {x a b : Item} {e : TypeId} {s n c : Nat} {A : Option Addr} {xs : List Value} {bs : List Rb} (h : Turn (Item.all []) w (Item.all [x, gB e s A n c xs bs, a, b]) w') : Turn (Item.all []) w (Item.all [x, Item.rowT e s (.slice A n c) n xs, a, b]) w' := by
  have h1 := ((h.by_ 4 rfl [1, 0, 2, 3] (by decide)).sameR same_flat)
  have h2 : Turn (Item.all []) w (Item.all ([Item.rowT e s (.slice A n c) n xs] ++ (bs.map Rb.item ++ [x, a, b]))) w' := h1
  have h3 := h2.sub (M := [Item.rowT e s (.slice A n c) n xs, x, a, b]) (List.Sublist.cons_cons _ (List.sublist_append_right _ _))
  exact h3.by_ 4 rfl [1, 0, 2, 3] (by decide)
theorem rowset_ex {w wr : World} {x a b : Item} {e : TypeId} {s n c g k : Nat} (h : ∃ xs, Turn (Item.all []) w (Item.all [x, Item.rowT e s (.slice (some ⟨g, 0, none⟩) n c) n xs, a, b]) wr) (hk : k < n * s) (u : Value) : ∃ xs, Turn (Item.all []) w (Item.all [x, Item.rowT e s (.slice (some ⟨g, 0, none⟩) n c) n xs, a, b]) (wr.setCell ⟨g, k, none⟩ u) := by
  obtain ⟨xs, h⟩ := h
  exact ⟨_, h.step (i := 1) rfl (rowT_set (h.get (i := 1) rfl) hk u)⟩
theorem rb_bound {bs : List Rb} {b : Rb} {i j M : Nat} {u : UInt8} (h : RbMax M bs) (hi : bs[i]? = some b) : RbMax M (bs.set i ⟨b.A, b.c, b.l.set j u⟩) := fun k x hk => by
  rw [List.getElem?_set] at hk
  split at hk
  · split at hk
    · cases hk; simpa using h i b hi
    · cases hk
  · exact h k x hk
set_option maxRecDepth 100000 in
set_option maxHeartbeats 12800000 in
theorem commitEntries_walk {w : World} {A0 : Option Addr} {c0 : Nat} {l : List Vn} (h0 : kVn.Sl w w.heap.size A0 l) (n : Int) (hn0 : IntKind.min .i64 ≤ n) (hn1 : n ≤ IntKind.max .i64) (mk : Int) (hm0 : IntKind.min .u8 ≤ mk) (hm1 : mk ≤ IntKind.max .u8) (hk : (kSlice kVn).bulk l + 1 + 1 ≤ 1048576) :
    Calls Try.prog 4 #[.slice A0 l.length c0, .int .i64 n, .int .u8 mk] w (True_ w) := by
  have hbk := vns_bulk l
  have hll : l.length ≤ 262144 := by omega
  have HV := Lib.hid (show ∀ v ∈ l, v.value.length ≤ 140737488355328 from fun v hv => by have := hbk.2 v hv; omega)
  have HI := Lib.hid (sl_ints h0)
  have HEI := Lib.hid (ents_ints (l := l) (n := n) (by simpa [IntKind.min, IntKind.signed, IntKind.bits] using hn0) (by simpa [IntKind.max, IntKind.signed, IntKind.bits] using hn1) (by omega))
  have hm0' : 0 ≤ mk := by simpa [IntKind.min, IntKind.signed, IntKind.bits] using hm0
  have hm1' : mk ≤ 255 := by simpa [IntKind.max, IntKind.signed, IntKind.bits] using hm1
  obtain ⟨u, hu⟩ : ∃ u : UInt8, (u.toNat : Int) = mk := ⟨UInt8.ofNat mk.toNat, by simp; omega⟩
  have HS := Lib.hid h0
  have HVM := Lib.hid (show ∀ v ∈ l, v.value.length ≤ 1048576 from fun v hv => by have := hbk.2 v hv; omega)
  have HVL := Lib.hid (show ∀ e ∈ entsF l n, e.value.length ≤ 1048576 from fun e he => by
    rcases List.mem_append.1 he with he | he
    · obtain ⟨v, hv, rfl⟩ := List.mem_map.1 he
      have := hbk.2 v hv
      unfold Vn.ofWrite
      split
      · simp
      · simp only; omega
    · simp only [List.mem_cons, List.not_mem_nil, or_false] at he
      subst he; simp)
  obtain ⟨N, hN⟩ : ∃ N, N = l.length := ⟨_, rfl⟩
  have HN := Lib.hid hN
  have HEL := Lib.hid (show (entsF l n).length = N + 1 from by unfold entsF; rw [List.length_append, List.length_map, hN]; rfl)
  rw [← hN] at hll ⊢
  have HU := Lib.hid hu
  clear h0 hk hbk hn0 hn1 hm0 hm1 hN hu
  go_enter Try.func4, Try.ntmps4
  have HCP := Lib.hid (fun (W : World) (hb : Below w.heap.size w W) => (show Calls Try.prog 12 #[.slice A0 N c0] W (HvPost l N W) from by rw [HN.out]; exact copies19_any (HS.out.below hb) hb.size (by rw [← HN.out]; omega) HV.out))
  go_wp2_with fail
  refine (HCP.out w (Below.refl _ _)).mono ?_
  rintro e w1 ⟨hsI, AI, cI, hI, rfl, t1⟩
  have T1 := Lib.hid (show Turn (Item.all []) w (Item.all [gV AI N cI hsI]) w1 from t1.one)
  have HHI := Lib.hid hI
  have HHL := Lib.hid (show N = hsI.length from by rw [HN.out, ← hI, List.length_map])
  have HENT := Lib.hid (fun (W : World) (h : (gV AI N cI hsI).P W) => (show Calls Try.prog 13 #[.slice AI N cI, .int .i64 n] W (CEntsPost l n W) from by
    have hs := hv_sl h HHL.out (by rw [HHI.out]; exact HI.out)
    rw [HHI.out] at hs
    rw [HN.out]
    exact centries_any hs (Nat.le_refl _) (by rw [← HN.out]; omega) HV.out))
  clear t1 hI
  go_wp2_with fail
  refine (HENT.out w1 (T1.out.get (i := 0) rfl)).mono ?_
  rintro e w2 ⟨tsA, AA, cA, hA, rfl, t2⟩
  rw [← HN.out] at t2 ⊢
  have T2 := Lib.hid (show Turn (Item.all []) w (Item.all [gV AI N cI hsI, gE AA (N + 1) cA tsA]) w2 from T1.out.join (show Turn _ _ (gE AA (N + 1) cA tsA) w2 from t2).one)
  have HA := Lib.hid hA
  clear t2 hA T1
  go_wp2_with fail
  refine (HENT.out w2 (T2.out.get (i := 0) rfl)).mono ?_
  rintro e w3 ⟨tsB, AB, cB, hB, rfl, t3⟩
  rw [← HN.out] at t3 ⊢
  have T3 := Lib.hid (show Turn (Item.all []) w (Item.all [gV AI N cI hsI, gE AA (N + 1) cA tsA, gE AB (N + 1) cB tsB]) w3 from T2.out.join (show Turn _ _ (gE AB (N + 1) cB tsB) w3 from t3).one)
  have HB := Lib.hid hB
  clear t3 hB T2
  go_wp2_with fail
  refine (show Calls Try.prog 14 #[.slice A0 N c0, .int .i64 n] w3 (CEntsPost l n w3) from by rw [HN.out]; exact rcentries_any (HS.out.below T3.out.free) T3.out.k.size (by rw [← HN.out]; omega) HV.out).mono ?_
  rintro e w4 ⟨tsW, AW, cW, hW, rfl, t4⟩
  rw [← HN.out] at t4 ⊢
  have T4 := Lib.hid (show Turn (Item.all []) w (Item.all [gV AI N cI hsI, gE AA (N + 1) cA tsA, gE AB (N + 1) cB tsB, gE AW (N + 1) cW tsW]) w4 from T3.out.join (show Turn _ _ (gE AW (N + 1) cW tsW) w4 from t4).one)
  have HW := Lib.hid hW
  have HSE := Lib.hid (fun (W : World) (A A' : Option Addr) (c c' : Nat) (ts ts' : List Told) (e : ts.map Told.x = entsF l n) (e' : ts'.map Told.x = entsF l n) (h : (gE A (N + 1) c ts).P W) (h' : (gE A' (N + 1) c' ts').P W) => (show Calls Try.prog 15 #[.slice A (N + 1 : Nat) c, .slice A' (N + 1 : Nat) c'] W (True_ W) from by
    have hl : N + 1 = ts.length := by rw [← HEL.out, ← e, List.length_map]
    have hl' : N + 1 = ts'.length := by rw [← HEL.out, ← e', List.length_map]
    have s1 := tell_ints h hl (by rw [e]; exact HEI.out)
    have s2 := tell_ints h' hl' (by rw [e']; exact HEI.out)
    rw [e] at s1
    rw [e'] at s2
    rw [← HEL.out]
    exact sameEntries19_any s1 s2 (by rw [HEL.out]; omega)))
  have HSV := Lib.hid (fun (W : World) (A A' : Option Addr) (c c' : Nat) (ts ts' : List Hv) (e : ts.map Hv.x = l) (e' : ts'.map Hv.x = l) (h : (gV A N c ts).P W) (h' : (gV A' N c' ts').P W) => (show Calls Try.prog 16 #[.slice A N c, .slice A' N c'] W (True_ W) from by
    have hl : N = ts.length := by rw [HN.out, ← e, List.length_map]
    have hl' : N = ts'.length := by rw [HN.out, ← e', List.length_map]
    have s1 := hv_sl h hl (by rw [e]; exact HI.out)
    have s2 := hv_sl h' hl' (by rw [e']; exact HI.out)
    rw [e] at s1
    rw [e'] at s2
    rw [HN.out]
    exact sameVersions19_any s1 s2 (by rw [← HN.out]; omega)))
  clear t4 hW T3
  go_wp2_with fail
  refine (HSE.out w4 _ _ _ _ _ _ HA.out HW.out (T4.out.get (i := 1) rfl) (T4.out.get (i := 3) rfl)).mono ?_
  rintro e w5 ⟨rfl, hb5⟩
  have T5 := Lib.hid (T4.out.go hb5)
  clear hb5 T4
  go_wp2_with fail
  refine (HCP.out w5 T5.out.free).mono ?_
  rintro e w6 ⟨hs6, A6, c6, h6, rfl, t6⟩
  have T6 := Lib.hid (T5.out.join (show Turn _ _ (gV A6 N c6 hs6) w6 from t6).one)
  have H6 := Lib.hid h6
  clear h6 t6 T5
  go_wp2_with fail
  refine (HSV.out w6 _ _ _ _ _ _ HHI.out H6.out (T6.out.get (i := 0) rfl) (T6.out.get (i := 4) rfl)).mono ?_
  rintro e w7 ⟨rfl, hb7⟩
  have T7 := Lib.hid (show Turn (Item.all []) w (Item.all [gV AI N cI hsI, gB 31 6 AA (N + 1) cA (toldCells tsA) (tBs tsA), gE AB (N + 1) cB tsB, gE AW (N + 1) cW tsW]) w7 from by
    have := (T6.out.go hb7).sub (M := [gV AI N cI hsI, gE AA (N + 1) cA tsA, gE AB (N + 1) cB tsB, gE AW (N + 1) cW tsW]) (List.Sublist.cons_cons _ (List.Sublist.cons_cons _ (List.Sublist.cons_cons _ (List.Sublist.cons_cons _ (List.nil_sublist _)))))
    rwa [show gE AA (N + 1) cA tsA = gB 31 6 AA (N + 1) cA (toldCells tsA) (tBs tsA) from told_gB] at this)
  have HOK := Lib.hid (told_ok (n := N + 1) (ts := tsA) (by rw [← HEL.out, ← HA.out, List.length_map]))
  have HBD := Lib.hid (show RbMax 1048576 (tBs tsA) from fun i b hb => by
    unfold tBs at hb
    rw [List.getElem?_map] at hb
    obtain ⟨t, ht, rfl⟩ := Option.map_eq_some_iff.1 hb
    have hm : t.x ∈ entsF l n := by rw [← HA.out]; exact List.mem_map.2 ⟨t, List.mem_of_getElem? ht, rfl⟩
    exact HVL.out _ hm)
  clear hb7 T6 H6
  go_wp2
  go_loopw [11] (fun t wr => ∃ K : Nat, t = .int .i64 K ∧ K ≤ N + 1 ∧ Hid (∃ xs bs, RbMax 1048576 bs ∧ RbOk 6 4 (N + 1) xs bs ∧ Turn (Item.all []) w (Item.all [gV AI N cI hsI, gB 31 6 AA (N + 1) cA xs bs, gE AB (N + 1) cB tsB, gE AW (N + 1) cW tsW]) wr)) (fun t _ => N + 1 - (intOf t).toNat)
  case atStart => exact ⟨0, rfl, Nat.zero_le _, Lib.hid ⟨_, _, HBD.out, HOK.out, T7.out⟩⟩
  case round =>
    obtain ⟨K, rfl, hK, hH⟩ := hrel
    clear T7 HOK HBD
    by_cases hlt : (K : Int) < ((N + 1 : Nat) : Int)
    · obtain ⟨xs, bs, hbd, hok, hT⟩ := hH.out
      have hKb : K < bs.length := by rw [hok.b]; omega
      have hKi : K + 1 ≤ N + 1 := by omega
      have hgB := hT.get (i := 1) rfl
      obtain ⟨ga, hga, _, hy, _⟩ := rb_at hgB hok (List.getElem?_eq_getElem hKb)
      subst hga
      obtain ⟨bA, hbA⟩ : ∃ x, x = (bs[K]).A := ⟨_, rfl⟩
      obtain ⟨bc, hbc⟩ : ∃ x, x = (bs[K]).c := ⟨_, rfl⟩
      obtain ⟨m, hm⟩ : ∃ x, x = (bs[K]).l.length := ⟨_, rfl⟩
      have HJ := Lib.hid (show ∃ bs' b', RbMax 1048576 bs' ∧ bs'[K]? = some b' ∧ b'.A = bA ∧ b'.c = bc ∧ b'.l.length = m ∧ RbOk 6 4 (N + 1) xs bs' ∧ Turn (Item.all []) w (Item.all [gV AI N cI hsI, gB 31 6 (some ⟨ga, 0, none⟩) (N + 1) cA xs bs', gE AB (N + 1) cB tsB, gE AW (N + 1) cW tsW]) wr from ⟨bs, _, hbd, List.getElem?_eq_getElem hKb, hbA.symm, hbc.symm, hm.symm, hok, hT⟩)
      have hlm : (K : Int) < (N : Int) + 1 := by omega
      have hmb : m ≤ 1048576 := by rw [hm]; exact hbd K _ (List.getElem?_eq_getElem hKb)
      clear hbd hT hgB hy hok hbA hbc hm hKb hH
      go_wp2
      go_loopw [12] (fun t wr => ∃ j : Nat, t = .int .i64 j ∧ j ≤ m ∧ Hid (∃ bs' b', RbMax 1048576 bs' ∧ bs'[K]? = some b' ∧ b'.A = bA ∧ b'.c = bc ∧ b'.l.length = m ∧ RbOk 6 4 (N + 1) xs bs' ∧ Turn (Item.all []) w (Item.all [gV AI N cI hsI, gB 31 6 (some ⟨ga, 0, none⟩) (N + 1) cA xs bs', gE AB (N + 1) cB tsB, gE AW (N + 1) cW tsW]) wr)) (fun t _ => m - (intOf t).toNat)
      case atStart => exact ⟨0, rfl, Nat.zero_le _, HJ⟩
      case round =>
        obtain ⟨j, rfl, hj, hJ⟩ := hrel
        clear HJ
        obtain ⟨bs', b', hbd, hb', e1, e2, e3, hok, hT⟩ := hJ.out
        obtain ⟨_, hga, hgl, hy, hyf⟩ := rb_at (hT.get (i := 1) rfl) hok hb'
        cases hga
        have y0 : wr.cell? ⟨ga, K * 6 + 4, none⟩ = some (.slice bA m bc) := by rw [hy]; unfold Rb.v; rw [e1, e2, e3]
        by_cases hjm : (j : Int) < (m : Int)
        · have hji : j + 1 ≤ m := by omega
          obtain ⟨gv, hgv, ⟨old, hold⟩, hfr, t1, hok2⟩ := rb_put (hT.get (i := 1) rfl) hok hb' (j := j) (by omega) u
          rw [e1] at hgv
          subst hgv
          have T2 := Lib.hid (hT.step (i := 1) rfl t1)
          have HOK2 := Lib.hid hok2
          have HB2 := Lib.hid (show (bs'.set K ⟨b'.A, b'.c, b'.l.set j u⟩)[K]? = some ⟨b'.A, b'.c, b'.l.set j u⟩ from List.getElem?_set_self (List.getElem?_eq_some_iff.1 hb').1)
          have HE := Lib.hid (And.intro e1 (And.intro e2 e3))
          have HBD2 := Lib.hid (rb_bound (j := j) (u := u) hbd hb')
          rw [HU.out] at T2
          clear hbd hT hok hb' e1 e2 e3 t1 hok2 hJ hy hyf
          go_wp2
          exact ⟨⟨j + 1, by go_num, hji, Lib.hid ⟨_, _, HBD2.out, HB2.out, HE.out.1, HE.out.2.1, by simp [HE.out.2.2], HOK2.out, T2.out⟩⟩, by simp [intOf]; omega⟩
        · obtain rfl : j = m := by omega
          have HR := Lib.hid (show ∃ xs bs, RbMax 1048576 bs ∧ RbOk 6 4 (N + 1) xs bs ∧ Turn (Item.all []) w (Item.all [gV AI N cI hsI, gB 31 6 (some ⟨ga, 0, none⟩) (N + 1) cA xs bs, gE AB (N + 1) cB tsB, gE AW (N + 1) cW tsW]) wr from ⟨xs, bs', hbd, hok, hT⟩)
          clear hbd hT hok hb' e1 e2 e3 hJ hy hyf
          go_wp2
          exact ⟨⟨K + 1, by go_num, hKi, HR⟩, by simp [intOf]; omega⟩
    · obtain rfl : K = N + 1 := by omega
      have HH1 := Lib.hid (show ∃ xs bs, RbFrom 1048576 0 bs ∧ RbOk 6 4 (N + 1) xs bs ∧ Turn (Item.all []) w (Item.all [gV AI N cI hsI, gB 31 6 AA (N + 1) cA xs bs, gE AB (N + 1) cB tsB, gE AW (N + 1) cW tsW]) wr from by
        obtain ⟨xs, bs, hbd, hok, hT⟩ := hH.out
        exact ⟨xs, bs, fun i b hb _ => hbd i b hb, hok, hT⟩)
      obtain ⟨M1, hM1⟩ : ∃ M1, IntKind.u8.wrap (mk + 1) = M1 := ⟨_, rfl⟩
      have HM1 := Lib.hid hM1
      obtain ⟨u2, hu2⟩ : ∃ u2 : UInt8, (u2.toNat : Int) = M1 := ⟨UInt8.ofNat M1.toNat, by rw [IntKind.wrap_u8] at hM1; simp; omega⟩
      have HU2 := Lib.hid hu2
      have hM10 : 0 ≤ M1 := by omega
      have hM11 : M1 ≤ 255 := by have := u2.toNat_lt; omega
      clear hH hu2
      go_wp2
      go_loopw [13] (fun t wr => ∃ K : Nat, t = .int .i64 K ∧ K ≤ N + 1 ∧ Hid (∃ xs bs, RbFrom 1048576 K bs ∧ RbOk 6 4 (N + 1) xs bs ∧ Turn (Item.all []) w (Item.all [gV AI N cI hsI, gB 31 6 AA (N + 1) cA xs bs, gE AB (N + 1) cB tsB, gE AW (N + 1) cW tsW]) wr)) (fun t _ => N + 1 - (intOf t).toNat)
      case atStart => exact ⟨0, rfl, Nat.zero_le _, HH1⟩
      case round =>
        obtain ⟨K, rfl, hK, hH⟩ := hrel
        clear HH1
        by_cases hlt : (K : Int) < ((N + 1 : Nat) : Int)
        · obtain ⟨xs, bs, hbd, hok, hT⟩ := hH.out
          have hKb : K < bs.length := by rw [hok.b]; omega
          have hKi : K + 1 ≤ N + 1 := by omega
          obtain ⟨ga, hga, q1, q2, q3⟩ := rb_at (hT.get (i := 1) rfl) hok (List.getElem?_eq_getElem hKb)
          subst hga
          have HJ := Lib.hid (show ∃ xs bs b, bs[K]? = some b ∧ b.l.length ≤ 1048576 + 0 ∧ RbFrom 1048576 (K + 1) bs ∧ RbOk 6 4 (N + 1) xs bs ∧ Turn (Item.all []) w (Item.all [gV AI N cI hsI, gB 31 6 (some ⟨ga, 0, none⟩) (N + 1) cA xs bs, gE AB (N + 1) cB tsB, gE AW (N + 1) cW tsW]) wr from ⟨xs, bs, _, List.getElem?_eq_getElem hKb, hbd K _ (List.getElem?_eq_getElem hKb) (Nat.le_refl _), fun i b hb h => hbd i b hb (by omega), hok, hT⟩)
          have hlm : (K : Int) < (N : Int) + 1 := by omega
          clear q1 q2 q3 hbd hT hok hKb hH
          go_wp2
          go_loopw [14] (fun t wr => ∃ j : Nat, t = .int .i64 j ∧ j ≤ 70 ∧ Hid (∃ xs bs b, bs[K]? = some b ∧ b.l.length ≤ 1048576 + j ∧ RbFrom 1048576 (K + 1) bs ∧ RbOk 6 4 (N + 1) xs bs ∧ Turn (Item.all []) w (Item.all [gV AI N cI hsI, gB 31 6 (some ⟨ga, 0, none⟩) (N + 1) cA xs bs, gE AB (N + 1) cB tsB, gE AW (N + 1) cW tsW]) wr)) (fun t _ => 70 - (intOf t).toNat)
          case atStart => exact ⟨0, rfl, Nat.zero_le _, HJ⟩
          case round =>
            obtain ⟨j, rfl, hj, hJ⟩ := hrel
            clear HJ
            by_cases hjm : (j : Int) < 70
            · have hji : j + 1 ≤ 70 := by omega
              obtain ⟨xs, bs, b, hb, hbl, hbd, hok, hT⟩ := hJ.out
              obtain ⟨_, hga, hgl, hy, hyf⟩ := rb_at (hT.get (i := 1) rfl) hok hb
              cases hga
              obtain ⟨m, hm⟩ : ∃ x, x = b.l.length := ⟨_, rfl⟩
              have y0 : wr.cell? ⟨ga, K * 6 + 4, none⟩ = some (.slice b.A m b.c) := by rw [hm]; exact hy
              have hmb : m ≤ 1048576 + j := by rw [hm]; exact hbl
              have BA := Lib.hid ((Below.refl wr.heap.size wr).alloc (Nat.le_refl _) (.cells #[.int .u8 M1] 5))
              have TA := Lib.hid (hT.go BA.out)
              have HB := Lib.hid hb
              have HOK := Lib.hid hok
              have HBD := Lib.hid hbd
              have HM := Lib.hid hm
              clear hb hbl hbd hok hT hy hyf hJ hm
              go_wp2_with (at_builtin; refine Stop.of ?_)
              refine ⟨wpList_append_any _ rfl rfl 0 Try.underlying29 Try.info5 rfl (by decide) (by decide) rfl (show World.ownsRow _ 0 5 1 (.slice b.A m b.c) m (bys b.l) from by rw [HM.out]; exact rb_row (TA.out.get (i := 1) rfl) HB.out) rfl (fresh_src (Blk.new wr 5 #[.int .u8 M1]) Try.underlying29 rfl (by decide) rfl) (by omega) (Nat.zero_le _) ?_⟩
              intro v' w3 ho hg hf
              obtain ⟨A', c', rfl, _, _⟩ := own_slice ho
              rw [HM.out] at ho hf
              have hst := rb_app (u := u2) (TA.out.get (i := 1) rfl) HOK.out HB.out (by rw [HU2.out]; exact ho) (by rw [HM.out] at hg; exact hg) hf
              have T3 := Lib.hid (TA.out.step (i := 1) rfl hst.1)
              have HK3 := Lib.hid hst.2.1
              have z0 : w3.cell? ⟨ga, K * 6 + 4, none⟩ = some (.slice b.A m b.c) := by rw [HM.out]; exact hst.2.2.1
              have z1 : w3.frozen? ⟨ga, K * 6 + 4, none⟩ = false := hst.2.2.2
              have HB3 := Lib.hid (show (bs.set K ⟨A', c', b.l ++ [u2]⟩)[K]? = some ⟨A', c', b.l ++ [u2]⟩ from List.getElem?_set_self (List.getElem?_eq_some_iff.1 HB.out).1)
              have HD3 := Lib.hid (show RbFrom 1048576 (K + 1) (bs.set K ⟨A', c', b.l ++ [u2]⟩) from fun i x hx hle => HBD.out i x (by rwa [List.getElem?_set_ne (by omega)] at hx) hle)
              have HL3 := Lib.hid (show (b.l ++ [u2]).length ≤ 1048576 + (j + 1) from by rw [List.length_append, ← HM.out]; simp; omega)
              rw [← HM.out] at T3 HK3
              clear hst ho hg hf BA TA HB HOK HBD HM
              go_wp2
              exact ⟨⟨j + 1, by go_num, hji, Lib.hid ⟨_, _, _, HB3.out, HL3.out, HD3.out, HK3.out, T3.out⟩⟩, by simp [intOf]; omega⟩
            · obtain rfl : j = 70 := by omega
              have HR := Lib.hid (show ∃ xs bs, RbFrom 1048576 (K + 1) bs ∧ RbOk 6 4 (N + 1) xs bs ∧ Turn (Item.all []) w (Item.all [gV AI N cI hsI, gB 31 6 (some ⟨ga, 0, none⟩) (N + 1) cA xs bs, gE AB (N + 1) cB tsB, gE AW (N + 1) cW tsW]) wr from by
                obtain ⟨xs, bs, b, _, _, hbd, hok, hT⟩ := hJ.out
                exact ⟨xs, bs, hbd, hok, hT⟩)
              clear hJ
              go_wp2
              exact ⟨⟨K + 1, by go_num, hKi, HR⟩, by simp [intOf]; omega⟩
        · obtain rfl : K = N + 1 := by omega
          have HH2 := Lib.hid (show ∃ xs, Turn (Item.all []) w (Item.all [gV AI N cI hsI, Item.rowT 31 6 (.slice AA (N + 1) cA) (N + 1) xs, gE AB (N + 1) cB tsB, gE AW (N + 1) cW tsW]) wr from by
            obtain ⟨xs, bs, _, _, hT⟩ := hH.out
            exact ⟨xs, gB_drop hT⟩)
          clear hH
          go_wp2
          go_loopw [15] (fun t wr => ∃ K : Nat, t = .int .i64 K ∧ K ≤ N + 1 ∧ Hid (∃ xs, Turn (Item.all []) w (Item.all [gV AI N cI hsI, Item.rowT 31 6 (.slice AA (N + 1) cA) (N + 1) xs, gE AB (N + 1) cB tsB, gE AW (N + 1) cW tsW]) wr)) (fun t _ => N + 1 - (intOf t).toNat)
          case atStart => exact ⟨0, rfl, Nat.zero_le _, HH2⟩
          case round =>
            obtain ⟨K, rfl, hK, hH⟩ := hrel
            clear HH2
            by_cases hlt : (K : Int) < ((N + 1 : Nat) : Int)
            · obtain ⟨xs, hT⟩ := hH.out
              have hKi : K + 1 ≤ N + 1 := by omega
              have hlm : (K : Int) < (N : Int) + 1 := by omega
              obtain ⟨ga, hga, q1, q2, hxl, hfz, hcl⟩ := rowT_at (hT.get (i := 1) rfl) (by omega)
              subst hga
              have hgt : ∀ r, r < 6 → ∃ v, wr.cell? ⟨ga, K * 6 + r, none⟩ = some v := fun r hr => by
                rw [hcl _ (by omega)]
                exact ⟨_, List.getElem?_eq_getElem (by rw [hxl]; omega)⟩
              obtain ⟨v0, y0⟩ := hgt 0 (by decide)
              obtain ⟨v1, y1⟩ := hgt 1 (by decide)
              obtain ⟨v2, y2⟩ := hgt 2 (by decide)
              obtain ⟨v3, y3⟩ := hgt 3 (by decide)
              obtain ⟨v4, y4⟩ := hgt 4 (by decide)
              obtain ⟨v5, y5⟩ := hgt 5 (by decide)
              rw [Nat.add_zero] at y0
              have f0 := hfz (K * 6)
              have f1 := hfz (K * 6 + 1)
              have f2 := hfz (K * 6 + 2)
              have f3 := hfz (K * 6 + 3)
              have f4 := hfz (K * 6 + 4)
              have f5 := hfz (K * 6 + 5)
              have HT := Lib.hid hT
              clear hT hcl hgt hfz q1 q2 hxl hH
              have HR := Lib.hid (rowset_ex (rowset_ex (rowset_ex (rowset_ex (rowset_ex (rowset_ex ⟨xs, HT.out⟩ (k := K * 6) (by omega) (.int .i64 1000)) (k := K * 6 + 1) (by omega) (.int .i64 0)) (k := K * 6 + 2) (by omega) (.int .i64 0)) (k := K * 6 + 3) (by omega) (.string ⟨#[]⟩)) (k := K * 6 + 4) (by omega) (.slice none 0 0)) (k := K * 6 + 5) (by omega) (.bool false))
              clear HT
              go_wp2
              exact ⟨⟨K + 1, by go_num, hKi, HR⟩, by simp [intOf]; omega⟩
            · obtain rfl : K = N + 1 := by omega
              go_wp2
              go_loopw [16, 8] (fun t u wr => ∃ (j m c' : Nat) (A' : Option Addr), t = .int .i64 j ∧ u = .slice A' m c' ∧ j ≤ 70 ∧ m ≤ N + 1 + j ∧ Hid (∃ xs, Turn (Item.all []) w (Item.all [gV AI N cI hsI, Item.rowT 31 6 (.slice A' m c') m xs, gE AB (N + 1) cB tsB, gE AW (N + 1) cW tsW]) wr)) (fun t _ _ => 70 - (intOf t).toNat)
              case atStart => exact ⟨0, N + 1, cA, AA, rfl, rfl, Nat.zero_le _, Nat.le_refl _, hH⟩
              case round =>
                clear hH
                obtain ⟨j, m, c', A', rfl, rfl, hj, hm, hH⟩ := hrel
                by_cases hjm : (j : Int) < 70
                · have hji : j + 1 ≤ 70 := by omega
                  have hmi : m + 1 ≤ N + 1 + (j + 1) := by omega
                  obtain ⟨xs, hT⟩ := hH.out
                  have TA := Lib.hid (hT.go ((Below.refl wr.heap.size wr).alloc (Nat.le_refl _) (.cells #[.int .i64 1001, .int .i64 0, .int .i64 0, .string ⟨#[]⟩, .slice none 0 0, .bool false] 31)))
                  clear hT hH
                  go_wp2_with (at_builtin; refine Stop.of ?_)
                  refine ⟨wpList_append_any _ rfl rfl 0 Try.underlying25 Try.info31 rfl (by decide) (by decide) rfl (TA.out.get (i := 1) rfl) rfl (fresh_src (Blk.new wr 31 #[.int .i64 1001, .int .i64 0, .int .i64 0, .string ⟨#[]⟩, .slice none 0 0, .bool false]) Try.underlying25 rfl (by decide) rfl) (by omega) (Nat.zero_le _) ?_⟩
                  intro v' w3 ho hg hf
                  have T3 := TA.out.step (i := 1) rfl (Turn.rowT (v := .slice A' m c') (n := m) (xs := xs) ho hg hf)
                  obtain ⟨A3, c3, rfl, _, _⟩ := own_slice ho
                  have HR := Lib.hid (show ∃ xs, Turn (Item.all []) w (Item.all [gV AI N cI hsI, Item.rowT 31 6 (.slice A3 (m + 1) c3) (m + 1) xs, gE AB (N + 1) cB tsB, gE AW (N + 1) cW tsW]) w3 from ⟨_, T3⟩)
                  clear ho hg hf T3 TA
                  go_wp2
                  exact ⟨⟨j + 1, m + 1, c3, A3, by go_num, rfl, hji, hmi, HR⟩, by simp [intOf]; omega⟩
                · obtain rfl : j = 70 := by omega
                  have T8 := Lib.hid (show Turn (Item.all []) w (Item.all [gV AI N cI hsI, gE AB (N + 1) cB tsB, gE AW (N + 1) cW tsW]) wr from by
                    obtain ⟨xs, hT⟩ := hH.out
                    exact hT.sub (List.Sublist.cons_cons _ (List.Sublist.cons _ (List.Sublist.refl _))))
                  clear hH
                  go_wp2_with fail
                  refine (HSE.out wr _ _ _ _ _ _ HB.out HW.out (T8.out.get (i := 1) rfl) (T8.out.get (i := 2) rfl)).mono ?_
                  rintro e w8 ⟨rfl, hb8⟩
                  have T9 := Lib.hid (T8.out.go hb8)
                  clear hb8 T8
                  go_wp2_with fail
                  refine (HCP.out w8 T9.out.free).mono ?_
                  rintro e w9 ⟨hs9, A9, c9, h9, rfl, t9⟩
                  have T10 := Lib.hid (T9.out.join (show Turn _ _ (gV A9 N c9 hs9) w9 from t9).one)
                  have H9 := Lib.hid h9
                  clear h9 t9 T9
                  go_wp2_with fail
                  refine (HSV.out w9 _ _ _ _ _ _ HHI.out H9.out (T10.out.get (i := 0) rfl) (T10.out.get (i := 3) rfl)).mono ?_
                  rintro e w10 ⟨rfl, hb10⟩
                  have T11 := Lib.hid (show Turn (Item.all []) w (Item.all [gB 33 4 AI N cI (hvCells hsI) (vBs hsI), gE AB (N + 1) cB tsB, gE AW (N + 1) cW tsW]) w10 from by
                    have := (T10.out.go hb10).sub (M := [gV AI N cI hsI, gE AB (N + 1) cB tsB, gE AW (N + 1) cW tsW]) (List.Sublist.cons_cons _ (List.Sublist.cons_cons _ (List.Sublist.cons_cons _ (List.nil_sublist _))))
                    rwa [show gV AI N cI hsI = gB 33 4 AI N cI (hvCells hsI) (vBs hsI) from hv_gB] at this)
                  have HOK2 := Lib.hid (hv_ok (n := N) (ts := hsI) HHL.out.symm)
                  have HBD2 := Lib.hid (show RbMax 1048576 (vBs hsI) from fun i b hb => by
                    unfold vBs at hb
                    rw [List.getElem?_map] at hb
                    obtain ⟨t, ht, rfl⟩ := Option.map_eq_some_iff.1 hb
                    exact HVM.out _ (by rw [← HHI.out]; exact List.mem_map.2 ⟨t, List.mem_of_getElem? ht, rfl⟩))
                  clear hb10 T10 H9
                  obtain ⟨M2, hM2⟩ : ∃ M2, IntKind.u8.wrap (mk + 2) = M2 := ⟨_, rfl⟩
                  have HM2 := Lib.hid hM2
                  obtain ⟨u3, hu3⟩ : ∃ u3 : UInt8, (u3.toNat : Int) = M2 := ⟨UInt8.ofNat M2.toNat, by rw [IntKind.wrap_u8] at hM2; simp; omega⟩
                  have HU3 := Lib.hid hu3
                  have hM20 : 0 ≤ M2 := by omega
                  have hM21 : M2 ≤ 255 := by have := u3.toNat_lt; omega
                  clear hu3 hM1
                  go_wp2
                  go_loopw [17] (fun t wr => ∃ K : Nat, t = .int .i64 K ∧ K ≤ N ∧ Hid (∃ xs bs, RbMax 1048576 bs ∧ RbOk 4 2 N xs bs ∧ Turn (Item.all []) w (Item.all [gB 33 4 AI N cI xs bs, gE AB (N + 1) cB tsB, gE AW (N + 1) cW tsW]) wr)) (fun t _ => N - (intOf t).toNat)
                  case atStart => exact ⟨0, rfl, Nat.zero_le _, Lib.hid ⟨_, _, HBD2.out, HOK2.out, T11.out⟩⟩
                  case round =>
                    obtain ⟨K, rfl, hK, hH⟩ := hrel
                    clear T11 HOK2 HBD2
                    by_cases hlt : (K : Int) < (N : Int)
                    · obtain ⟨xs, bs, hbd, hok, hT⟩ := hH.out
                      have hKb : K < bs.length := by rw [hok.b]; omega
                      have hKi : K + 1 ≤ N := by omega
                      obtain ⟨ga, hga, q1, q2, q3⟩ := rb_at (hT.get (i := 0) rfl) hok (List.getElem?_eq_getElem hKb)
                      subst hga
                      obtain ⟨bA, hbA⟩ : ∃ x, x = (bs[K]).A := ⟨_, rfl⟩
                      obtain ⟨bc, hbc⟩ : ∃ x, x = (bs[K]).c := ⟨_, rfl⟩
                      obtain ⟨m, hm⟩ : ∃ x, x = (bs[K]).l.length := ⟨_, rfl⟩
                      have HJ := Lib.hid (show ∃ bs' b', RbMax 1048576 bs' ∧ bs'[K]? = some b' ∧ b'.A = bA ∧ b'.c = bc ∧ b'.l.length = m ∧ RbOk 4 2 N xs bs' ∧ Turn (Item.all []) w (Item.all [gB 33 4 (some ⟨ga, 0, none⟩) N cI xs bs', gE AB (N + 1) cB tsB, gE AW (N + 1) cW tsW]) wr from ⟨bs, _, hbd, List.getElem?_eq_getElem hKb, hbA.symm, hbc.symm, hm.symm, hok, hT⟩)
                      have hmb : m ≤ 1048576 := by rw [hm]; exact hbd K _ (List.getElem?_eq_getElem hKb)
                      clear q1 q2 q3 hbd hT hok hbA hbc hm hKb hH
                      go_wp2
                      go_loopw [18] (fun t wr => ∃ j : Nat, t = .int .i64 j ∧ j ≤ m ∧ Hid (∃ bs' b', RbMax 1048576 bs' ∧ bs'[K]? = some b' ∧ b'.A = bA ∧ b'.c = bc ∧ b'.l.length = m ∧ RbOk 4 2 N xs bs' ∧ Turn (Item.all []) w (Item.all [gB 33 4 (some ⟨ga, 0, none⟩) N cI xs bs', gE AB (N + 1) cB tsB, gE AW (N + 1) cW tsW]) wr)) (fun t _ => m - (intOf t).toNat)
                      case atStart => exact ⟨0, rfl, Nat.zero_le _, HJ⟩
                      case round =>
                        obtain ⟨j, rfl, hj, hJ⟩ := hrel
                        clear HJ
                        obtain ⟨bs', b', hbd, hb', e1, e2, e3, hok, hT⟩ := hJ.out
                        obtain ⟨_, hga, hgl, hy, hyf⟩ := rb_at (hT.get (i := 0) rfl) hok hb'
                        cases hga
                        have y0 : wr.cell? ⟨ga, K * 4 + 2, none⟩ = some (.slice bA m bc) := by rw [hy]; unfold Rb.v; rw [e1, e2, e3]
                        by_cases hjm : (j : Int) < (m : Int)
                        · have hji : j + 1 ≤ m := by omega
                          obtain ⟨gv, hgv, ⟨old, hold⟩, hfr, t1, hok2⟩ := rb_put (hT.get (i := 0) rfl) hok hb' (j := j) (by omega) u3
                          rw [e1] at hgv
                          subst hgv
                          have T2 := Lib.hid (hT.step (i := 0) rfl t1)
                          have HOK2 := Lib.hid hok2
                          have HB2 := Lib.hid (show (bs'.set K ⟨b'.A, b'.c, b'.l.set j u3⟩)[K]? = some ⟨b'.A, b'.c, b'.l.set j u3⟩ from List.getElem?_set_self (List.getElem?_eq_some_iff.1 hb').1)
                          have HE := Lib.hid (And.intro e1 (And.intro e2 e3))
                          have HBD2 := Lib.hid (rb_bound (j := j) (u := u3) hbd hb')
                          rw [HU3.out] at T2
                          clear hbd hT hok hb' e1 e2 e3 t1 hok2 hJ hy hyf
                          go_wp2
                          exact ⟨⟨j + 1, by go_num, hji, Lib.hid ⟨_, _, HBD2.out, HB2.out, HE.out.1, HE.out.2.1, by simp [HE.out.2.2], HOK2.out, T2.out⟩⟩, by simp [intOf]; omega⟩
                        · obtain rfl : j = m := by omega
                          have HR := Lib.hid (show ∃ xs bs, RbMax 1048576 bs ∧ RbOk 4 2 N xs bs ∧ Turn (Item.all []) w (Item.all [gB 33 4 (some ⟨ga, 0, none⟩) N cI xs bs, gE AB (N + 1) cB tsB, gE AW (N + 1) cW tsW]) wr from ⟨xs, bs', hbd, hok, hT⟩)
                          clear hbd hT hok hb' e1 e2 e3 hJ hy hyf
                          go_wp2
                          exact ⟨⟨K + 1, by go_num, hKi, HR⟩, by simp [intOf]; omega⟩
                    · obtain rfl : K = N := by omega
                      have T12 := Lib.hid (show Turn (Item.all []) w (Item.all [gE AB (K + 1) cB tsB, gE AW (K + 1) cW tsW]) wr from by
                        obtain ⟨xs, bs, _, _, hT⟩ := hH.out
                        exact hT.sub (List.Sublist.cons _ (List.Sublist.refl _)))
                      clear hH hM2
                      go_wp2_with fail
                      refine (HSE.out wr _ _ _ _ _ _ HB.out HW.out (T12.out.get (i := 0) rfl) (T12.out.get (i := 1) rfl)).mono ?_
                      rintro e w11 ⟨rfl, hb11⟩
                      have T13 := Lib.hid (T12.out.go hb11)
                      clear hb11 T12
                      go_wp2_with fail
                      refine (HCP.out w11 T13.out.free).mono ?_
                      rintro e w12 ⟨hsC, AC, cC, hC, rfl, tC⟩
                      have T14 := Lib.hid (T13.out.join (show Turn _ _ (gV AC K cC hsC) w12 from tC).one)
                      have HENC := Lib.hid (show Calls Try.prog 13 #[.slice AC K cC, .int .i64 n] w12 (CEntsPost l n w12) from by
                        have hs := hv_sl (show (gV AC K cC hsC).P w12 from T14.out.get (i := 2) rfl) (by rw [HN.out, ← hC, List.length_map]) (by rw [hC]; exact HI.out)
                        rw [hC] at hs
                        rw [HN.out]
                        exact centries_any hs (Nat.le_refl _) (by rw [← HN.out]; omega) HV.out)
                      clear hC tC T13
                      go_wp2_with fail
                      refine HENC.out.mono ?_
                      rintro e w13 ⟨tsD, AD, cD, hD, rfl, tD⟩
                      rw [← HN.out] at tD ⊢
                      have T15 := Lib.hid (T14.out.join (show Turn _ _ (gE AD (K + 1) cD tsD) w13 from tD).one)
                      have HD := Lib.hid hD
                      clear tD hD T14 HENC
                      go_wp2_with fail
                      refine (HSE.out w13 _ _ _ _ _ _ HD.out HW.out (T15.out.get (i := 3) rfl) (T15.out.get (i := 1) rfl)).mono ?_
                      rintro e w14 ⟨rfl, hb14⟩
                      have B14 := Lib.hid (T15.out.go hb14).free
                      clear hb14 T15
                      go_wp2_with fail
                      refine (awake19_any (w := w14)).mono ?_
                      rintro e w15 ⟨rfl, hb15⟩
                      have B15 := Lib.hid (B14.out.trans (hb15.mono B14.out.size))
                      clear hb15
                      go_wp2
                      go_ret
                      exact ⟨rfl, B15.out⟩
end Go.Proofs.Ytoecgkdipgaaeaa
