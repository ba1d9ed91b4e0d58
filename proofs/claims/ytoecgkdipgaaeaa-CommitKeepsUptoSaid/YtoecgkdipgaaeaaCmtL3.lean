/- CommitKeeps: the walk. -/
import Derived.Test.YtoecgkdipgaaeaaG18
set_option linter.all false
set_option linter.unusedVariables false
set_option linter.unusedSimpArgs false
set_option linter.unnecessarySimpa false
namespace Go.Proofs.Ytoecgkdipgaaeaa
open Go.RowKit

/-! The plain law: what is got behind a commit into an empty store. -/
theorem of_applyL {n : Int} : ∀ {l : List Vn} {S : PS}, (l.Pairwise fun a b => bytesBefore a.k b.k = true) → ∀ {v : Vn}, v ∈ l → ofP (applyL S l n) v.k = ofP S v.k ++ [⟨n, v.value, v.dead⟩]
  | [], _, _, v, h => by cases h
  | a :: r, S, hp, v, hv => by
    obtain ⟨h1, h2⟩ := List.pairwise_cons.1 hp
    have hne : ∀ x ∈ r, x.k ≠ a.k := fun x hx e => by
      have := h1 x hx
      rw [e, bB_irrefl] at this; cases this
    show ofP (applyL (applyP S { a with stamp := n }) r n) v.k = _
    by_cases hva : v = a
    · subst hva
      rw [applyL_other hne]
      exact of_put_same
    · have hvr : v ∈ r := (List.mem_cons.1 hv).resolve_left hva
      rw [of_applyL h2 hvr]
      congr 1
      exact of_put_other (fun e => hne v hvr e.symm)
theorem ups_applyL {n : Int} {l : List Vn} (h : l.Pairwise fun a b => bytesBefore a.k b.k = true) : ∀ p ∈ applyL [] l n, Ups p.2 := by
  intro p hp
  obtain ⟨K, hK, rfl⟩ := List.mem_iff_getElem.1 hp
  have hg := getA_of (rising_apart (rising_applyL (n := n) (l := l) (S := []) List.Pairwise.nil)) hK
  have ho : ofP (applyL [] l n) ((applyL [] l n)[K]).1 = ((applyL [] l n)[K]).2 := by unfold ofP; rw [hg]; rfl
  by_cases hk : ∃ v ∈ l, v.k = ((applyL [] l n)[K]).1
  · obtain ⟨v, hv, hk⟩ := hk
    rw [← hk, of_applyL h hv] at ho
    rw [← ho]
    exact List.pairwise_singleton _ _
  · rw [applyL_other (fun v hv e => hk ⟨v, hv, e⟩)] at ho
    rw [← ho]
    exact List.Pairwise.nil
theorem get_applyL {l : List Vn} (h : ¬ Falls l) {v : Vn} (hv : v ∈ l) : getF (applyL [] l 1) v.k 1 = if v.dead then none else some v.value := by
  unfold getF
  rw [of_applyL (rises h) hv]
  rfl
theorem okUp {s : St} {N M : Nat} (h : s.ok N) (hM : N ≤ M) : s.ok M := ⟨h.apart, Nat.le_trans h.many hM, fun p hp => by
  obtain ⟨h1, h2, h3, h4⟩ := h.each p hp
  exact ⟨h1, h2, Nat.le_trans h3 hM, h4⟩, h.live⟩
/-- What Do leaves, in a world made anew. -/
def KRes (w0 : World) (gs gc : Nat) (gl g gp : Nat) (rest : List Item) (l : List Vn) (e : Ending) (w' : World) : Prop :=
  ∃ (en ee : Int) (s' : St) (now : Int) (q : Pt), e = .returned (.tuple #[.int .i64 en, .int .i64 ee]) ∧ s'.gs = gs ∧ s'.ok l.length ∧ (ee ≠ 0 → en = 0 ∧ now = 0) ∧ (ee = 0 → l = [] ∨ en = 1 ∧ s'.view = applyL [] l 1 ∧ ¬ Falls l) ∧
    Turn (Item.all []) w0 (Item.all (s'.item :: Item.clk gc now 5 :: lg gl g gp false q :: rest)) w'
theorem do_keep {w0 w : World} {gs gm gc gl g gp ga : Nat} {rest : List Item} (T : Turn (Item.all []) w0 (Item.all (St.item ⟨gs, gm, 0, []⟩ :: Item.clk gc 0 5 :: lg gl g gp false (freshPt ga) :: rest)) w) (hok : (St.mk gs gm 0 []).ok 0)
    {A : Option Addr} {c : Nat} {l : List Vn} (hS : ∀ w' : World, (∀ i ∈ rest, i.P w' ∧ ∀ k, i.own k → k < w.heap.size) → kVn.Sl w' w.heap.size A l) (hks : ∀ v ∈ l, v.key.size ≤ maxLen ∧ v.value.length ≤ 140737488355328) (hl : l.length ≤ 1048576) :
    Calls Try.prog 18 #[.pointer (some ⟨gs, 0, none⟩), .pointer (some ⟨gc, 0, none⟩), .pointer (some ⟨gl, 0, none⟩), .slice A l.length c, .int .i64 0] w (KRes w0 gs gc gl g gp rest l) := by
  refine (do_turn T hok (by decide) (by decide) (by simp [freshPt]) (by simp [freshPt]) (c := c) (since := 0) hS hks (by omega) (by simp [freshPt]; omega)).mono ?_
  rintro e w' (⟨h1, ⟨r, h2, rfl⟩, t⟩ | ⟨h1, h2, rfl, s', q, h3, h4, h5, h6, _, _, _, _, t⟩)
  · refine ⟨0, r, _, 0, _, rfl, rfl, okUp hok (by omega), fun _ => ⟨rfl, rfl⟩, fun h => ?_, t⟩
    rcases h1 with h1 | ⟨h1, h3⟩
    · exact .inl h1
    · rw [if_neg h1] at h2
      exact absurd (h2.symm.trans h) h3
  · rw [Nat.zero_add] at h5
    exact ⟨_, _, s', _, q, rfl, h3, h5, fun h => absurd rfl h, fun _ => .inr ⟨rfl, h6, (asked_0 h2).1⟩, t⟩
/-! What the law writes behind each value. -/
def padU (j : Nat) : UInt8 := UInt8.ofNat j ^^^ 0xA5
def padL (j : Nat) : List UInt8 := (List.range j).map padU
theorem pad_bits {j : Nat} (h : j < 70) : bits .xor .u8 (j : Int) 165 = ((padU j).toNat : Int) :=
  (show ∀ j : Fin 70, bits .xor .u8 ((j.1 : Nat) : Int) 165 = ((padU j.1).toNat : Int) from by decide +kernel) ⟨j, h⟩
theorem padL_succ (j : Nat) : padL (j + 1) = padL j ++ [padU j] := by unfold padL; rw [List.range_succ, List.map_append]; rfl
theorem padL_len (j : Nat) : (padL j).length = j := by simp [padL]
/-- Element i of the row, with what lies behind its value. -/
def WPv (v : Vn) (q : List UInt8) (p : Pv) : Prop := p.key = v.key ∧ p.st = v.stamp ∧ p.n = v.value.length ∧ p.l = v.value ++ q ∧ p.dead = v.dead
def PvI (l : List Vn) (K : Nat) (ps : List Pv) : Prop := ps.length = l.length ∧ ∀ (i : Nat) (p : Pv) (v : Vn), ps[i]? = some p → l[i]? = some v → WPv v (if i < K then padL 70 else []) p
/-- Element K is under way. -/
def PvJ (l : List Vn) (K j : Nat) (ps : List Pv) (p : Pv) : Prop := ps.length = l.length ∧ ps[K]? = some p ∧
  (∀ v, l[K]? = some v → p.key = v.key ∧ p.st = v.stamp ∧ p.n = v.value.length + j ∧ p.l = v.value ++ padL j ∧ p.dead = v.dead) ∧
  ∀ (i : Nat) (p : Pv) (v : Vn), i ≠ K → ps[i]? = some p → l[i]? = some v → WPv v (if i < K then padL 70 else []) p
theorem pvJ_0 {l : List Vn} {K : Nat} {ps : List Pv} (h : PvI l K ps) {p : Pv} (hp : ps[K]? = some p) : PvJ l K 0 ps p :=
  ⟨h.1, hp, fun v hv => by
    obtain ⟨h1, h2, h3, h4, h5⟩ := h.2 K p v hp hv
    rw [if_neg (by omega)] at h4
    exact ⟨h1, h2, h3, h4, h5⟩, fun i p v _ hp hv => h.2 i p v hp hv⟩
theorem pvJ_set {l : List Vn} {K j : Nat} {ps : List Pv} {p : Pv} (h : PvJ l K j ps p) {A : Option Addr} {c : Nat} : PvJ l K (j + 1) (ps.set K ⟨p.key, p.st, A, p.n + 1, c, p.l ++ [padU j], p.dead⟩) ⟨p.key, p.st, A, p.n + 1, c, p.l ++ [padU j], p.dead⟩ := by
  obtain ⟨h1, h2, h3, h4⟩ := h
  refine ⟨by rw [List.length_set]; exact h1, List.getElem?_set_self (List.getElem?_eq_some_iff.1 h2).1, fun v hv => ?_, fun i p' v hi hp hv => h4 i p' v hi (by rwa [List.getElem?_set_ne (by omega)] at hp) hv⟩
  obtain ⟨e1, e2, e3, e4, e5⟩ := h3 v hv
  exact ⟨e1, e2, by show p.n + 1 = _; omega, by show p.l ++ _ = _; rw [e4, padL_succ, List.append_assoc], e5⟩
theorem pvJ_end {l : List Vn} {K : Nat} {ps : List Pv} {p : Pv} (h : PvJ l K 70 ps p) {v : Vn} (hv : l[K]? = some v) : PvI l (K + 1) (ps.set K ⟨p.key, p.st, p.A, v.value.length, p.c, p.l, p.dead⟩) := by
  obtain ⟨h1, h2, h3, h4⟩ := h
  refine ⟨by rw [List.length_set]; exact h1, fun i p' v' hp hv' => ?_⟩
  by_cases hi : i = K
  · subst hi
    rw [List.getElem?_set_self (List.getElem?_eq_some_iff.1 h2).1] at hp
    injection hp with hp
    subst hp
    rw [hv] at hv'
    injection hv' with hv'
    subst hv'
    obtain ⟨e1, e2, e3, e4, e5⟩ := h3 v hv
    rw [if_pos (by omega)]
    exact ⟨e1, e2, rfl, e4, e5⟩
  · rw [List.getElem?_set_ne (by omega)] at hp
    have := h4 i p' v' hi hp hv'
    rcases Nat.lt_or_ge i K with h | h
    · rw [if_pos h] at this; rw [if_pos (by omega)]; exact this
    · rw [if_neg (by omega)] at this; rw [if_neg (by omega)]; exact this
/-- The mark behind the versions. -/
def pvMark (j : Nat) : Pv := ⟨⟨#[109, 97, 114, 107]⟩, j, none, 0, 0, [], false⟩
def pvMarks (j : Nat) : List Pv := (List.range j).map pvMark
theorem pvMarks_succ (j : Nat) : pvMarks (j + 1) = pvMarks j ++ [pvMark j] := by unfold pvMarks; rw [List.range_succ, List.map_append]; rfl
theorem pvMarks_len (j : Nat) : (pvMarks j).length = j := by simp [pvMarks]
def kRest (gw gd gs gc g gl : Nat) : List Item := [Item.blk gw 53 (wldCells gs gc g gl gd (.slice none 0 0) 0 5 false), Item.blk gd 228 areaZ]
set_option maxRecDepth 100000 in
set_option maxHeartbeats 12800000 in
theorem commitKeeps_walk {w : World} {A0 : Option Addr} {c0 : Nat} {l : List Vn} (h0 : kVn.Sl w w.heap.size A0 l) (mk : Int) (hm0 : IntKind.min .u8 ≤ mk) (hm1 : mk ≤ IntKind.max .u8) (hk : (kSlice kVn).bulk l + 1 ≤ 1048576) :
    Calls Try.prog 5 #[.slice A0 l.length c0, .int .u8 mk] w (True_ w) := by
  have hbk := vns_bulk l
  have hll : l.length ≤ 262144 := by omega
  have HV := Lib.hid (show ∀ v ∈ l, v.value.length ≤ 140737488355328 from fun v hv => by have := hbk.2 v hv; omega)
  have HKS := Lib.hid (show ∀ v ∈ l, v.key.size ≤ maxLen ∧ v.value.length ≤ 140737488355328 from fun v hv => by have := hbk.2 v hv; unfold maxLen; omega)
  have HI := Lib.hid (sl_ints h0)
  have hm0' : 0 ≤ mk := by simpa [IntKind.min, IntKind.signed, IntKind.bits] using hm0
  have hm1' : mk ≤ 255 := by simpa [IntKind.max, IntKind.signed, IntKind.bits] using hm1
  obtain ⟨u, hu⟩ : ∃ u : UInt8, (u.toNat : Int) = mk := ⟨UInt8.ofNat mk.toNat, by simp; omega⟩
  have HS := Lib.hid h0
  have HVM := Lib.hid (show ∀ v ∈ l, v.value.length ≤ 1048576 from fun v hv => by have := hbk.2 v hv; omega)
  obtain ⟨N, hN⟩ : ∃ N, N = l.length := ⟨_, rfl⟩
  have HN := Lib.hid hN
  rw [← hN] at hll ⊢
  have HU := Lib.hid hu
  clear h0 hk hbk hm0 hm1 hN hu
  go_enter Try.func5, Try.ntmps5
  go_wp2_with fail
  refine (fresh_any (w := w) (n := 0) (k := 5) (by decide) (by decide) (by decide) (by decide)).mono ?_
  rintro e w1 ⟨gs, gm, gc, g, gp, ga, gl, gw, gd, rfl, hok, t1⟩
  have HOK := Lib.hid hok
  have T1 := Lib.hid t1
  clear hok t1
  go_wp2_with fail
  refine (awake19_any (w := w1)).mono ?_
  rintro e w2 ⟨rfl, hb2⟩
  have T2 := Lib.hid (T1.out.go hb2)
  clear hb2 T1
  go_wp2_with fail
  refine (show Calls Try.prog 12 #[.slice A0 N c0] w2 (HvPost l N w2) from by rw [HN.out]; exact copies19_any (HS.out.below T2.out.free) T2.out.free.size (by rw [← HN.out]; omega) HV.out).mono ?_
  rintro e w3 ⟨hsI, AI, cI, hI, rfl, t3⟩
  have HP0 := Lib.hid (show PvI l 0 (hsI.map pvOf) from by
    refine ⟨by rw [List.length_map, ← hI, List.length_map], fun i p v hp hv => ?_⟩
    rw [← hI, List.getElem?_map] at hv
    rw [List.getElem?_map] at hp
    obtain ⟨t, ht, rfl⟩ := Option.map_eq_some_iff.1 hp
    rw [ht] at hv
    injection hv with hv
    subst hv
    exact ⟨rfl, rfl, rfl, by simp [pvOf], rfl⟩)
  have T3 := Lib.hid (show ∃ ps, PvI l 0 ps ∧ Turn (Item.all []) w (Item.all (St.item ⟨gs, gm, 0, []⟩ :: Item.clk gc 0 5 :: lg gl g gp false (freshPt ga) :: kRest gw gd gs gc g gl ++ [gP AI N cI ps])) w3 from ⟨_, HP0.out, by
    have := T2.out.join (show Turn _ _ (gV AI N cI hsI) w3 from t3).one
    rw [gV_gP] at this; exact this⟩)
  clear t3 hI T2 HP0
  go_wp2
  go_loopw [7] (fun t wr => ∃ K : Nat, t = .int .i64 K ∧ K ≤ N ∧ Hid (∃ ps, PvI l K ps ∧ Turn (Item.all []) w (Item.all (St.item ⟨gs, gm, 0, []⟩ :: Item.clk gc 0 5 :: lg gl g gp false (freshPt ga) :: kRest gw gd gs gc g gl ++ [gP AI N cI ps])) wr)) (fun t _ => N - (intOf t).toNat)
  case atStart => exact ⟨0, rfl, Nat.zero_le _, T3⟩
  case round =>
    obtain ⟨K, rfl, hK, hH⟩ := hrel
    clear T3
    by_cases hlt : (K : Int) < (N : Int)
    · obtain ⟨ps, hI, hT⟩ := hH.out
      have hKi : K + 1 ≤ N := by omega
      have hKl : K < l.length := by have := HN.out; omega
      have hgP := hT.get (i := 5) rfl
      have hKb : K < ps.length := by rw [hI.1]; exact hKl
      obtain ⟨ga', hga, hgl, hcc, hfz, hpc⟩ := pv_at hgP (by rw [hI.1, HN.out]) (List.getElem?_eq_getElem hKb)
      subst hga
      have HJ := Lib.hid (show ∃ ps p, PvJ l K 0 ps p ∧ Turn (Item.all []) w (Item.all (St.item ⟨gs, gm, 0, []⟩ :: Item.clk gc 0 5 :: lg gl g gp false (freshPt ga) :: kRest gw gd gs gc g gl ++ [gP (some ⟨ga', 0, none⟩) N cI ps])) wr from ⟨ps, _, pvJ_0 hI (List.getElem?_eq_getElem hKb), hT⟩)
      obtain ⟨m, hm⟩ : ∃ m, m = (l[K]).value.length := ⟨_, rfl⟩
      have HM := Lib.hid hm
      have hmb : m ≤ 1048576 := by rw [hm]; exact HVM.out _ (List.getElem_mem _)
      obtain ⟨bb, off, Av, cv, hA0, hbb, a1, a2, a3, s2, a4⟩ := vn_at HS.out hKl
      rw [← hm] at s2
      subst hA0
      have S2 := Lib.hid (And.intro hbb s2)
      clear hI hT hpc hKb hgP hgl hcc hfz hm hH s2 hbb a1 a2 a3 a4
      go_wp2
      go_loopw [8] (fun t wr => ∃ j : Nat, t = .int .i64 j ∧ j ≤ 70 ∧ Hid (∃ ps p, PvJ l K j ps p ∧ Turn (Item.all []) w (Item.all (St.item ⟨gs, gm, 0, []⟩ :: Item.clk gc 0 5 :: lg gl g gp false (freshPt ga) :: kRest gw gd gs gc g gl ++ [gP (some ⟨ga', 0, none⟩) N cI ps])) wr)) (fun t _ => 70 - (intOf t).toNat)
      case atStart => exact ⟨0, rfl, Nat.zero_le _, HJ⟩
      case round =>
        obtain ⟨j, rfl, hj, hJ⟩ := hrel
        clear HJ
        by_cases hjm : (j : Int) < 70
        · have hji : j + 1 ≤ 70 := by omega
          obtain ⟨ps, p, hI, hT⟩ := hJ.out
          have hps : ps.length = N := by rw [hI.1, HN.out]
          obtain ⟨_, hga, hgl, a0, hfz, a1, a2, y2, a3⟩ := pv_at (hT.get (i := 5) rfl) hps hI.2.1
          cases hga
          obtain ⟨e1, e2, e3, e4, e5⟩ := hI.2.2.1 _ (List.getElem?_eq_getElem hKl)
          have hpn : p.n = p.l.length := by rw [e3, e4, List.length_append, padL_len]
          have hpm : p.n = m + j := by rw [e3, ← HM.out]
          rw [hpm] at y2
          have TA := Lib.hid (hT.go ((Below.refl wr.heap.size wr).alloc (Nat.le_refl _) (.cells #[.int .u8 (padU j).toNat] 5)))
          have HII := Lib.hid hI
          have HE := Lib.hid (And.intro hps (And.intro hpn hpm))
          have f2 := hfz (K * 4 + 2)
          clear hI hT hps e1 e2 e3 e4 e5 hpn hpm hfz hgl hJ a0 a1 a2 a3
          go_wp2_with (at_builtin; refine Stop.of ?_)
          have hpb := pad_bits (j := j) (by omega)
          rw [hpb]
          clear hpb
          obtain ⟨M, hMM⟩ : ∃ M, M = m + j := ⟨_, rfl⟩
          have HMM := Lib.hid hMM
          have hMb : M ≤ 1048576 + 70 := by omega
          rw [← hMM] at HE y2 ⊢
          clear hMM
          refine ⟨wpList_append_any _ rfl rfl 0 Try.underlying29 Try.info5 rfl (by decide) (by decide) rfl (show World.ownsRow _ 0 5 1 (.slice p.A M p.c) M (bys p.l) from by rw [← HE.out.2.2, HE.out.2.1]; exact pv_row (TA.out.get (i := 5) rfl) HII.out.2.1) rfl (fresh_src (Blk.new wr 5 #[.int .u8 (padU j).toNat]) Try.underlying29 rfl (by decide) rfl) (by omega) (Nat.zero_le _) ?_⟩
          intro v' w4 ho hg hf
          obtain ⟨A', c', rfl, _, _⟩ := own_slice ho
          have hst := pv_app (u := padU j) (TA.out.get (i := 5) rfl) HE.out.1 HII.out.2.1 HE.out.2.1 (by rw [← HE.out.2.1, HE.out.2.2]; exact ho) (by rw [← HE.out.2.1, HE.out.2.2]; exact hg) (by rw [← HE.out.2.1, HE.out.2.2]; exact hf)
          have T4 := Lib.hid (TA.out.step (i := 5) rfl hst.1)
          have z0 : w4.cell? ⟨ga', K * 4 + 2, none⟩ = some (.slice p.A M p.c) := by rw [← HE.out.2.2]; exact hst.2.1
          have z1 : w4.frozen? ⟨ga', K * 4 + 2, none⟩ = false := hst.2.2
          have HJ2 := Lib.hid (pvJ_set (A := A') (c := c') HII.out)
          rw [← HE.out.2.1, HE.out.2.2] at T4
          rw [HE.out.2.2] at HJ2
          clear hst ho hg hf TA HII y2 f2 HE
          go_wp2
          exact ⟨⟨j + 1, by go_num, hji, Lib.hid ⟨_, _, HJ2.out, T4.out⟩⟩, by simp [intOf]; omega⟩
        · obtain rfl : j = 70 := by omega
          obtain ⟨ps, p, hI, hT⟩ := hJ.out
          have hps : ps.length = N := by rw [hI.1, HN.out]
          obtain ⟨_, hga, hgl, a0, hfz, a1, a2, y2, a3⟩ := pv_at (hT.get (i := 5) rfl) hps hI.2.1
          cases hga
          obtain ⟨e1, e2, e3, e4, e5⟩ := hI.2.2.1 _ (List.getElem?_eq_getElem hKl)
          have hpm : p.n = m + 70 := by rw [e3, ← HM.out]
          have hpl : p.l.length = m + 70 := by rw [e4, List.length_append, padL_len, ← HM.out]
          have hpc : m ≤ p.c := by
            obtain ⟨A1, c1, e, hc, _⟩ := BOwns.slice (pv_row (hT.get (i := 5) rfl) hI.2.1)
            injection e with _ _ e2
            omega
          obtain ⟨M, hMM⟩ : ∃ M, M = m + 70 := ⟨_, rfl⟩
          have hMb : m ≤ M := by omega
          rw [hpm, ← hMM] at y2
          have f2 := hfz (K * 4 + 2)
          have s2 : wr.cell? ⟨bb, off + K * 4 + 2, none⟩ = some (.slice Av m cv) := (hT.free.cell (p := ⟨bb, _, none⟩) S2.out.1).trans S2.out.2
          have HR := Lib.hid (show ∃ ps, PvI l (K + 1) ps ∧ Turn (Item.all []) w (Item.all (St.item ⟨gs, gm, 0, []⟩ :: Item.clk gc 0 5 :: lg gl g gp false (freshPt ga) :: kRest gw gd gs gc g gl ++ [gP (some ⟨ga', 0, none⟩) N cI ps])) (wr.drew.setCell ⟨ga', K * 4 + 2, none⟩ (.slice p.A m p.c)) from by
            refine ⟨_, pvJ_end hI (List.getElem?_eq_getElem hKl), ?_⟩
            rw [← HM.out]
            have hT' := hT.go (Below.refl _ _).drew
            exact hT'.step (i := 5) rfl (pv_upd (j := 2) (v := .slice p.A m p.c) (p' := ⟨p.key, p.st, p.A, m, p.c, p.l, p.dead⟩) (hT'.get (i := 5) rfl) hps hI.2.1 (by decide) (Turn.refl (Item.all_get (hT'.get (i := 5) rfl) (x := p.item) (List.mem_cons_of_mem _ (List.mem_map.2 ⟨p, List.mem_of_getElem? hI.2.1, rfl⟩)))) rfl).1)
          clear hI hT hps e1 e2 e3 e4 e5 hpm hpl hMM hfz hgl a0 a1 a2 a3 hJ
          go_wp2_with fail
          go_region
          go_wp2
          exact ⟨⟨K + 1, by go_num, hKi, HR⟩, by simp [intOf]; omega⟩
    · obtain rfl : K = N := by omega
      have T3 := Lib.hid (show ∃ ps, PvI l K ps ∧ Turn (Item.all []) w (Item.all (St.item ⟨gs, gm, 0, []⟩ :: Item.clk gc 0 5 :: lg gl g gp false (freshPt ga) :: kRest gw gd gs gc g gl ++ [gP AI (K + 0) cI (ps ++ pvMarks 0)])) wr from by
        obtain ⟨ps, hI, hT⟩ := hH.out
        exact ⟨ps, hI, by rw [show pvMarks 0 = [] from rfl, List.append_nil]; exact hT⟩)
      clear hH
      go_wp2
      go_loopw [9, 6] (fun t u wr => ∃ (j m c' : Nat) (A' : Option Addr), t = .int .i64 j ∧ u = .slice A' m c' ∧ j ≤ 70 ∧ m = K + j ∧ Hid (∃ ps, PvI l K ps ∧ Turn (Item.all []) w (Item.all (St.item ⟨gs, gm, 0, []⟩ :: Item.clk gc 0 5 :: lg gl g gp false (freshPt ga) :: kRest gw gd gs gc g gl ++ [gP A' m c' (ps ++ pvMarks j)])) wr)) (fun t _ _ => 70 - (intOf t).toNat)
      case atStart => exact ⟨0, K, cI, AI, rfl, rfl, Nat.zero_le _, rfl, T3⟩
      case round =>
        clear T3
        obtain ⟨j, m, c', A', rfl, rfl, hj, hm, hH⟩ := hrel
        have hm1 : m ≤ K + j := by omega
        have hm2 : K + j ≤ m := by omega
        clear hm
        by_cases hjm : (j : Int) < 70
        · have hji : j + 1 ≤ 70 := by omega
          obtain ⟨ps, hI, hT⟩ := hH.out
          have TA := Lib.hid (hT.go ((Below.refl wr.heap.size wr).alloc (Nat.le_refl _) (.cells #[.string ⟨#[109, 97, 114, 107]⟩, .int .i64 j, .slice none 0 0, .bool false] 33)))
          have HII := Lib.hid hI
          clear hI hT hH
          go_wp2_with (at_builtin; refine Stop.of ?_)
          refine ⟨wpList_append_any _ rfl rfl 0 Try.underlying23 info_ver rfl (by decide) (by decide) rfl (show World.ownsRow _ 0 33 4 (.slice A' m c') m (pvCells (ps ++ pvMarks j)) from Item.all_get (TA.out.get (i := 5) rfl) (List.mem_cons_self ..)) rfl (fresh_src (Blk.new wr 33 #[.string ⟨#[109, 97, 114, 107]⟩, .int .i64 j, .slice none 0 0, .bool false]) Try.underlying23 rfl (by decide) rfl) (by omega) (Nat.zero_le _) ?_⟩
          intro v' w4 ho hg hf
          obtain ⟨A2, c2, rfl, _, _⟩ := own_slice ho
          have T4 := Lib.hid (show Turn (Item.all []) w (Item.all (St.item ⟨gs, gm, 0, []⟩ :: Item.clk gc 0 5 :: lg gl g gp false (freshPt ga) :: kRest gw gd gs gc g gl ++ [gP A2 (m + 1) c2 (ps ++ pvMarks (j + 1))])) w4 from by
            refine TA.out.step (i := 5) rfl (x := gP A' m c' (ps ++ pvMarks j)) ?_
            have t1 := Turn.head (TA.out.get (i := 5) rfl) (Turn.rowT (v := .slice A' m c') (n := m) (xs := pvCells (ps ++ pvMarks j)) ho hg hf)
            have t2 := t1.more (y := Item.row (.slice none 0 0) []) (Below.refl _ _) (BOwns.nil _ _) (fun k hk => by cases hk)
            rw [pvMarks_succ, ← List.append_assoc]
            unfold gP
            have em : (ps ++ pvMarks j ++ [pvMark j]).map Pv.item = (ps ++ pvMarks j).map Pv.item ++ [Item.row (.slice none 0 0) []] := List.map_append
            rw [pvCells_snoc, em]
            exact t2.permR ((List.Perm.swap _ _ _).trans (List.Perm.cons _ (List.perm_append_singleton _ _).symm)))
          clear ho hg hf TA
          go_wp2
          exact ⟨⟨j + 1, m + 1, c2, A2, by go_num, rfl, hji, by omega, Lib.hid ⟨_, HII.out, T4.out⟩⟩, by simp [intOf]; omega⟩
        · obtain rfl : j = 70 := by omega
          obtain ⟨ps, hI, hT⟩ := hH.out
          have hpl : (ps ++ pvMarks 70).length = m := by rw [List.length_append, hI.1, pvMarks_len, ← HN.out]; omega
          obtain ⟨ga', hga⟩ : ∃ ga', A' = some ⟨ga', 0, none⟩ := by
            obtain ⟨x, h, _⟩ := pv_at (hT.get (i := 5) rfl) hpl (List.getElem?_eq_getElem (show 0 < (ps ++ pvMarks 70).length by omega))
            exact ⟨x, h⟩
          subst hga
          have hcm : m ≤ c' := by
            obtain ⟨_, hga, _, hc, _⟩ := pv_at (hT.get (i := 5) rfl) hpl (List.getElem?_eq_getElem (show 0 < (ps ++ pvMarks 70).length by omega))
            exact hc
          have HP := Lib.hid (show PvI l K ps from hI)
          have T5 := Lib.hid (hT.go (Below.refl _ _).drew)
          have hSL : ∀ (B : Nat) (w' : World), (∀ i ∈ kRest gw gd gs gc g gl ++ [gP (some ⟨ga', 0, none⟩) m c' (ps ++ pvMarks 70)], i.P w' ∧ ∀ k, i.own k → k < B) → kVn.Sl w' B (some ⟨ga', 0, none⟩) l := by
            intro B w' h
            obtain ⟨h1, h2⟩ := h _ (List.getElem_mem (n := 2) (by simp [kRest]))
            refine pv_sl (n := m) (c := c') (ps := ps ++ pvMarks 70) h1 h2 hpl (by rw [← HN.out]; omega) (fun i p v hp hv => ?_)
            have hil : i < ps.length := by rw [HP.out.1]; exact (List.getElem?_eq_some_iff.1 hv).1
            rw [List.getElem?_append_left hil] at hp
            obtain ⟨e1, e2, e3, e4, e5⟩ := HP.out.2 i p v hp hv
            exact ⟨HI.out v (List.mem_of_getElem? hv), e1, e2, e3, ⟨_, e4⟩, e5⟩
          have HSL := Lib.hid hSL
          have hdo := do_keep (c := c') T5.out HOK.out (HSL.out _) HKS.out (by rw [← HN.out]; omega)
          rw [← HN.out] at hdo
          have HD := Lib.hid hdo
          obtain ⟨y0, y1, y3⟩ := wld_cells (T5.out.get (i := 3) rfl)
          have hmK : K ≤ c' := by omega
          clear hI hT hH hSL hdo T5 hpl
          go_wp2_with fail
          go_region_held3 (fun w' => w'.cell? ⟨gw, 0, none⟩ = some (.pointer (some ⟨gs, 0, none⟩)) ∧ w'.cell? ⟨gw, 1, none⟩ = some (.pointer (some ⟨gc, 0, none⟩)) ∧ w'.cell? ⟨gw, 3, none⟩ = some (.pointer (some ⟨gl, 0, none⟩))) (first | (with_reducible exact ⟨y0, y1, y3⟩) | (with_reducible exact ⟨z0, z1, z3⟩) | go_keep) ((go_at_call 18; refine HD.out.mono ?_; rintro e w5 ⟨en, ee, s1, now, q, rfl, h1, h2, h3, h4, t⟩; have T := Lib.hid t; obtain ⟨z0, z1, z3⟩ := wld_cells (T.out.get (i := 3) rfl); have H := Lib.hid (And.intro h1 (And.intro h2 (And.intro h3 h4))); clear h1 h2 h3 h4 t HD))
          go_upto_region 18 with fail
          have T6 := Lib.hid (T.out.go (Below.refl _ _).drew)
          have HC : Hid (Calls Try.prog 19 #[.pointer (some ⟨gs, 0, none⟩), .slice (some ⟨ga', 0, none⟩) K c', .int .i64 0] w5.drew fun e w' => (∃ b, e = .returned (.bool b)) ∧ Turn (Item.all []) w (Item.all (s1.item :: Item.clk gc now 5 :: lg gl g gp false q :: kRest gw gd gs gc g gl ++ [gP (some ⟨ga', 0, none⟩) m c' (ps ++ pvMarks 70)])) w') := Lib.hid (by
            have hp := T6.out.p
            have := conflict_any (c := c') (since := 0) (H.out.2.1.o (by rw [← HN.out]; omega) (T6.out.get (i := 0) rfl)) (HSL.out w5.drew.heap.size w5.drew fun i hi => ⟨Item.all_get hp (List.mem_cons_of_mem _ (List.mem_cons_of_mem _ (List.mem_cons_of_mem _ hi))), fun k ho => Item.lt _ (Item.all_get hp (List.mem_cons_of_mem _ (List.mem_cons_of_mem _ (List.mem_cons_of_mem _ hi)))) ho⟩) (Nat.le_refl _) (by rw [← HN.out]; omega) (fun v hv => (HKS.out v hv).1)
            rw [show ptrS (some s1) = .pointer (some ⟨s1.gs, 0, none⟩) from rfl, H.out.1, ← HN.out] at this
            refine this.mono ?_
            rintro e w' ⟨rfl, hb⟩
            exact ⟨⟨_, rfl⟩, T6.out.go hb⟩)
          clear z0 z1 z3 y0 y1 y3 T
          obtain ⟨y0, y1, y3⟩ := wld_cells (T6.out.get (i := 3) rfl)
          clear T6
          go_region_held3 (fun w' => w'.cell? ⟨gw, 0, none⟩ = some (.pointer (some ⟨gs, 0, none⟩))) (first | (with_reducible exact y0) | (with_reducible exact z0) | go_keep) ((go_at_call 19; refine HC.out.mono ?_; rintro e w6 ⟨⟨b, rfl⟩, t⟩; have T := Lib.hid t; obtain ⟨z0, z1, z3⟩ := wld_cells (T.out.get (i := 3) rfl); clear t HC))
          have T7 := Lib.hid (show ∃ qs : List Pv, qs.length = m ∧ (∀ i, 0 ≤ i → qs[i]? = (ps ++ pvMarks 70)[i]?) ∧ Turn (Item.all []) w (Item.all (s1.item :: Item.clk gc now 5 :: lg gl g gp false q :: kRest gw gd gs gc g gl ++ [gP (some ⟨ga', 0, none⟩) m c' qs])) w6 from ⟨_, by rw [List.length_append, HP.out.1, pvMarks_len, ← HN.out]; omega, fun _ _ => rfl, T.out⟩)
          clear z0 z1 z3 y0 y1 y3 T
          go_wp2
          go_loopw [12] (fun t wr => ∃ k : Nat, t = .int .i64 k ∧ k ≤ m ∧ Hid (∃ qs : List Pv, qs.length = m ∧ (∀ i, k ≤ i → qs[i]? = (ps ++ pvMarks 70)[i]?) ∧ Turn (Item.all []) w (Item.all (s1.item :: Item.clk gc now 5 :: lg gl g gp false q :: kRest gw gd gs gc g gl ++ [gP (some ⟨ga', 0, none⟩) m c' qs])) wr)) (fun t _ => m - (intOf t).toNat)
          case atStart => exact ⟨0, rfl, Nat.zero_le _, T7⟩
          case round =>
            clear T7
            obtain ⟨k, rfl, hk, hH⟩ := hrel
            by_cases hkm : (k : Int) < (m : Int)
            · have hki : k + 1 ≤ m := by omega
              obtain ⟨qs, hql, hqe, hT⟩ := hH.out
              by_cases hkK : (K : Int) ≤ (k : Int)
              · obtain ⟨j, hj⟩ : ∃ j : Nat, j = k - K := ⟨_, rfl⟩
                have hj70 : j < 70 := by omega
                have hsub : (k : Int) - (K : Int) = (j : Int) := by omega
                have hqk : qs[k]? = some (pvMark j) := by
                  rw [hqe k (Nat.le_refl _), List.getElem?_append_right (by rw [HP.out.1, ← HN.out]; omega), HP.out.1, ← HN.out, ← hj]
                  unfold pvMarks
                  rw [List.getElem?_map, List.getElem?_range hj70]; rfl
                obtain ⟨_, hga, hgl, a0, a1, y0, y1, a2, a3⟩ := pv_at (hT.get (i := 5) rfl) hql hqk
                cases hga
                have HR := Lib.hid (show ∃ qs : List Pv, qs.length = m ∧ (∀ i, k + 1 ≤ i → qs[i]? = (ps ++ pvMarks 70)[i]?) ∧ Turn (Item.all []) w (Item.all (s1.item :: Item.clk gc now 5 :: lg gl g gp false q :: kRest gw gd gs gc g gl ++ [gP (some ⟨ga', 0, none⟩) m c' qs])) wr from ⟨qs, hql, fun i hi => hqe i (by omega), hT⟩)
                rw [show (pvMark j).key = ⟨#[109, 97, 114, 107]⟩ from rfl] at y0
                rw [show (pvMark j).st = (j : Int) from rfl] at y1
                clear hj hqk hql hqe hT hH a0 a1 a2 a3 hgl
                go_wp2
                exact ⟨⟨k + 1, by go_num, hki, HR⟩, by simp [intOf]; omega⟩
              · have hkl : k < l.length := by have := HN.out; omega
                have hkp : k < ps.length := by rw [HP.out.1]; exact hkl
                obtain ⟨p, hpe⟩ : ∃ p, p = ps[k] := ⟨_, rfl⟩
                have hpk : ps[k]? = some p := by rw [hpe]; exact List.getElem?_eq_getElem hkp
                have hqk : qs[k]? = some p := by rw [hqe k (Nat.le_refl _), List.getElem?_append_left hkp, hpk]
                obtain ⟨x, hx⟩ : ∃ x, x = l[k] := ⟨_, rfl⟩
                obtain ⟨e1, e2, e3, e4, e5⟩ := HP.out.2 k p x hpk (by rw [hx]; exact List.getElem?_eq_getElem hkl)
                rw [if_pos (by omega)] at e4
                obtain ⟨_, hga, hgl, a0, hfz, y0, y1, y2, y3⟩ := pv_at (hT.get (i := 5) rfl) hql hqk
                cases hga
                obtain ⟨bb, off, Av, cv, hA0, hbb, _, s0, s1', s2, s3, hval, hvc⟩ := vn_at HS.out hkl
                rw [← hx] at s0 s1' s2 s3 hval hvc
                subst hA0
                obtain ⟨key, st, v, dd⟩ := x
                simp only at e1 e2 e3 e4 e5 s0 s1' s2 s3 hval hvc
                rw [e1] at y0
                rw [e2] at y1
                rw [e3] at y2
                rw [e5] at y3
                have hrow := pv_row (hT.get (i := 5) rfl) hqk
                have hcap : v.length + 70 ≤ p.c := by
                  obtain ⟨A1, c1, e, hc, _⟩ := BOwns.slice hrow
                  injection e with _ _ e2
                  rw [e4, List.length_append, padL_len] at hc
                  omega
                have hrd : BReads wr wr.heap.size p.A v := by
                  obtain ⟨A1, c1, e, hc, hr⟩ := BOwns.slice hrow
                  injection e with e6 _ e7
                  subst e6
                  rw [e4] at hr
                  exact pv_front hr
                have hvm : v.length ≤ 1048576 := HVM.out _ (show (⟨key, st, v, dd⟩ : Vn) ∈ l from by rw [hx]; exact List.getElem_mem _)
                have hww := hT.free
                have hwsz := hww.size
                have r0 : wr.cell? ⟨bb, off + k * 4, none⟩ = some (.string key) := (hww.cell (p := ⟨bb, _, none⟩) hbb).trans s0
                have r1 : wr.cell? ⟨bb, off + k * 4 + 1, none⟩ = some (.int .i64 st) := (hww.cell (p := ⟨bb, _, none⟩) hbb).trans s1'
                have r2 : wr.cell? ⟨bb, off + k * 4 + 2, none⟩ = some (.slice Av v.length cv) := (hww.cell (p := ⟨bb, _, none⟩) hbb).trans s2
                have r3 : wr.cell? ⟨bb, off + k * 4 + 3, none⟩ = some (.bool dd) := (hww.cell (p := ⟨bb, _, none⟩) hbb).trans s3
                have S2 := Lib.hid (And.intro hbb s2)
                have HV1 := Lib.hid ((hrd.below (Below.refl _ _).drew).more (Nat.le_refl wr.heap.size))
                have HV2 := Lib.hid (((hval.below hww).below (Below.refl _ _).drew).more hwsz)
                have HT := Lib.hid hT
                have HQ := Lib.hid (And.intro hql (And.intro hqe hqk))
                have HE := Lib.hid (And.intro e3 e4)
                have hbr : bb < wr.drew.heap.size := Nat.lt_of_lt_of_le hbb hwsz
                have hgr : ga' < wr.drew.heap.size := hgl
                obtain ⟨pA, hpA⟩ : ∃ x, x = p.A := ⟨_, rfl⟩
                obtain ⟨pc, hpc⟩ : ∃ x, x = p.c := ⟨_, rfl⟩
                have HPA := Lib.hid (And.intro hpA hpc)
                rw [← hpA, ← hpc] at y2
                rw [← hpA] at HV1
                rw [← hpc] at hcap
                obtain ⟨n, hn⟩ : ∃ n, n = v.length := ⟨_, rfl⟩
                have HNV := Lib.hid hn
                clear hx hpe hpk hqk e1 e2 e3 e4 e5 hfz a0 hql hqe s0 s1' s2 s3 hval hvc hrow hrd hT hH hww hwsz hkp hpA hpc hgl hbb hn
                go_wp2_with fail
                go_region_held3 (fun w' => w'.cell? ⟨ga', k * 4, none⟩ = some (.string key) ∧ w'.cell? ⟨ga', k * 4 + 1, none⟩ = some (.int .i64 st) ∧ w'.cell? ⟨ga', k * 4 + 2, none⟩ = some (.slice pA v.length pc) ∧ w'.cell? ⟨ga', k * 4 + 3, none⟩ = some (.bool dd) ∧ w'.cell? ⟨bb, off + k * 4, none⟩ = some (.string key) ∧ w'.cell? ⟨bb, off + k * 4 + 1, none⟩ = some (.int .i64 st) ∧ w'.cell? ⟨bb, off + k * 4 + 2, none⟩ = some (.slice Av v.length cv) ∧ w'.cell? ⟨bb, off + k * 4 + 3, none⟩ = some (.bool dd)) (first | (with_reducible exact ⟨y0, y1, y2, y3, r0, r1, r2, r3⟩) | (with_reducible exact ⟨z0, z1, z2, z3, z0b, z1b, z2b, z3b⟩) | go_keep) ((go_at_call 20; refine (sameVersion_any (A := pA) (A' := Av) (c := pc) (c' := cv) ⟨key, st, v, dd⟩ HV1.out HV2.out).mono ?_; rintro e w7 ⟨rfl, hb⟩; have T8 := Lib.hid (HT.out.go ((Below.refl wr.heap.size wr).drew.trans hb)); have z0 := (hb.cell (p := ⟨ga', k * 4, none⟩) hgr).trans y0; have z1 := (hb.cell (p := ⟨ga', k * 4 + 1, none⟩) hgr).trans y1; have z2 := (hb.cell (p := ⟨ga', k * 4 + 2, none⟩) hgr).trans y2; have z3 := (hb.cell (p := ⟨ga', k * 4 + 3, none⟩) hgr).trans y3; have z0b := (hb.cell (p := ⟨bb, off + k * 4, none⟩) hbr).trans r0; have z1b := (hb.cell (p := ⟨bb, off + k * 4 + 1, none⟩) hbr).trans r1; have z2b := (hb.cell (p := ⟨bb, off + k * 4 + 2, none⟩) hbr).trans r2; have z3b := (hb.cell (p := ⟨bb, off + k * 4 + 3, none⟩) hbr).trans r3; clear hb))
                rw [← HNV.out] at hcap hvm z2 z2b
                clear y0 y1 y2 y3 r0 r1 r2 r3 z0 z1 z3 z0b z1b z3b HT HV1 HV2 hbr hgr
                obtain ⟨M, hM⟩ : ∃ M, M = n + 70 := ⟨_, rfl⟩
                have HM := Lib.hid hM
                have hsum : (n : Int) + 70 = (M : Int) := by omega
                have hMc : M ≤ pc := by omega
                have hMb : M ≤ 1048646 := by omega
                clear hM
                have hwM : IntKind.i64.wrap ((n : Int) + 70) = (M : Int) := by rw [IntKind.wrap_i64]; omega
                go_wp2_with fail
                rw [← HNV.out]
                go_quiet (fail)
                clear z2 z2b hwM hsum
                go_wp2
                go_loopw [14] (fun t wr => ∃ j : Nat, t = .int .i64 j ∧ j ≤ 70 ∧ Hid (Turn (Item.all []) w (Item.all (s1.item :: Item.clk gc now 5 :: lg gl g gp false q :: kRest gw gd gs gc g gl ++ [gP (some ⟨ga', 0, none⟩) m c' qs])) wr)) (fun t _ => 70 - (intOf t).toNat)
                case atStart => exact ⟨0, rfl, Nat.zero_le _, Lib.hid (T8.out.go (below_drewN (Below.refl _ _) nq))⟩
                case round =>
                  clear T8
                  obtain ⟨j, rfl, hj, hT⟩ := hrel
                  by_cases hj70 : (j : Int) < 70
                  · have hji : j + 1 ≤ 70 := by omega
                    obtain ⟨X, hX⟩ : ∃ X : Int, X = ((padU j).toNat : Int) := ⟨_, rfl⟩
                    have hpb : bits .xor .u8 (j : Int) 165 = X := by rw [hX]; exact pad_bits (by omega)
                    obtain ⟨S, hS⟩ : ∃ S, S = n + j := ⟨_, rfl⟩
                    have hsum : (n : Int) + (j : Int) = (S : Int) := by omega
                    have hSM : (S : Int) < (M : Int) := by have := HM.out; omega
                    obtain ⟨gv, hgv, cb⟩ : ∃ gv, pA = some ⟨gv, 0, none⟩ ∧ wr.cell? ⟨gv, S, none⟩ = some (.int .u8 X) := by
                      have hr := pv_row (hT.out.get (i := 5) rfl) HQ.out.2.2
                      have hpl : p.l.length = M := by rw [HE.out.2, List.length_append, padL_len, HM.out, HNV.out]
                      obtain ⟨gv, hA, _, _, _, _, hc⟩ := rowT_at (e := 5) (size := 1) (n := p.l.length) (c := p.c) (A := p.A) (xs := bys p.l) (show (Item.rowT 5 1 (.slice p.A p.l.length p.c) p.l.length (bys p.l)).P wr from hr) (by omega)
                      refine ⟨gv, by rw [HPA.out.1, hA], ?_⟩
                      rw [hc S (by omega)]
                      unfold bys
                      rw [List.getElem?_map, HE.out.2, List.getElem?_append_right (by rw [hS, HNV.out]; omega), hS, HNV.out, Nat.add_sub_cancel_left]
                      unfold padL
                      rw [List.getElem?_map, List.getElem?_range (by omega), hX]; rfl
                    subst hgv
                    have r2 : wr.cell? ⟨bb, off + k * 4 + 2, none⟩ = some (.slice Av n cv) := by rw [HNV.out]; exact (hT.out.free.cell (p := ⟨bb, _, none⟩) S2.out.1).trans S2.out.2
                    clear hS hX
                    go_wp2
                    exact ⟨⟨j + 1, by go_num, hji, hT⟩, by simp [intOf]; omega⟩
                  · obtain rfl : j = 70 := by omega
                    have T10 := Lib.hid (show ∃ (qs : List Pv) (p' : Pv), qs[k]? = some p' ∧ p'.A = pA ∧ p'.l.length = M ∧ qs.length = m ∧ (∀ i, k + 1 ≤ i → qs[i]? = (ps ++ pvMarks 70)[i]?) ∧ Turn (Item.all []) w (Item.all (s1.item :: Item.clk gc now 5 :: lg gl g gp false q :: kRest gw gd gs gc g gl ++ [gP (some ⟨ga', 0, none⟩) m c' qs])) wr from ⟨qs, p, HQ.out.2.2, HPA.out.1.symm, by rw [HE.out.2, List.length_append, padL_len, HM.out, HNV.out], HQ.out.1, fun i hi => HQ.out.2.1 i (by omega), hT.out⟩)
                    clear hT
                    go_wp2
                    go_loopw [15] (fun t wr => ∃ j : Nat, t = .int .i64 j ∧ j ≤ M ∧ Hid (∃ (qs : List Pv) (p' : Pv), qs[k]? = some p' ∧ p'.A = pA ∧ p'.l.length = M ∧ qs.length = m ∧ (∀ i, k + 1 ≤ i → qs[i]? = (ps ++ pvMarks 70)[i]?) ∧ Turn (Item.all []) w (Item.all (s1.item :: Item.clk gc now 5 :: lg gl g gp false q :: kRest gw gd gs gc g gl ++ [gP (some ⟨ga', 0, none⟩) m c' qs])) wr)) (fun t _ => M - (intOf t).toNat)
                    case atStart => exact ⟨0, rfl, Nat.zero_le _, T10⟩
                    case round =>
                      clear T10
                      obtain ⟨j, rfl, hj, hT⟩ := hrel
                      obtain ⟨qs2, p2, hq1, hq2, hq3, hq4, hq5, hT2⟩ := hT.out
                      by_cases hjM : (j : Int) < (M : Int)
                      · have hji : j + 1 ≤ M := by omega
                        obtain ⟨gv, hgv, ⟨old, hold⟩, hfr, t1⟩ := pv_byte (hT2.get (i := 5) rfl) hq1 (j := j) (by omega) u
                        rw [hq2] at hgv
                        subst hgv
                        have T11 := Lib.hid (show ∃ (qs : List Pv) (p' : Pv), qs[k]? = some p' ∧ p'.A = some ⟨gv, 0, none⟩ ∧ p'.l.length = M ∧ qs.length = m ∧ (∀ i, k + 1 ≤ i → qs[i]? = (ps ++ pvMarks 70)[i]?) ∧ Turn (Item.all []) w (Item.all (s1.item :: Item.clk gc now 5 :: lg gl g gp false q :: kRest gw gd gs gc g gl ++ [gP (some ⟨ga', 0, none⟩) m c' qs])) (wr.setCell ⟨gv, j, none⟩ (.int .u8 mk)) from ⟨qs2.set k ⟨p2.key, p2.st, p2.A, p2.n, p2.c, p2.l.set j u, p2.dead⟩, ⟨p2.key, p2.st, p2.A, p2.n, p2.c, p2.l.set j u, p2.dead⟩, List.getElem?_set_self (List.getElem?_eq_some_iff.1 hq1).1, hq2, by show (List.set _ _ _).length = _; rw [List.length_set]; exact hq3, by rw [List.length_set]; exact hq4, fun i hi => by rw [List.getElem?_set_ne (by omega)]; exact hq5 i hi, by
                          rw [← HU.out]
                          exact hT2.step (i := 5) rfl t1⟩)
                        clear hq1 hq2 hq3 hq4 hq5 hT2 t1 hT
                        go_wp2
                        exact ⟨⟨j + 1, by go_num, hji, T11⟩, by simp [intOf]; omega⟩
                      · obtain rfl : j = M := by omega
                        obtain ⟨_, hga, hgl, a0, hfz, y0, a1, a2, a3⟩ := pv_at (hT2.get (i := 5) rfl) hq4 hq1
                        cases hga
                        have f0 := hfz (k * 4)
                        have T12 := Lib.hid (show ∃ qs : List Pv, qs.length = m ∧ (∀ i, k + 1 ≤ i → qs[i]? = (ps ++ pvMarks 70)[i]?) ∧ Turn (Item.all []) w (Item.all (s1.item :: Item.clk gc now 5 :: lg gl g gp false q :: kRest gw gd gs gc g gl ++ [gP (some ⟨ga', 0, none⟩) m c' qs])) (wr.setCell ⟨ga', k * 4, none⟩ (.string ⟨#[109, 97, 114, 107]⟩)) from ⟨_, by rw [List.length_set]; exact hq4, fun i hi => by rw [List.getElem?_set_ne (by omega)]; exact hq5 i hi, 
                          hT2.step (i := 5) rfl (pv_upd (j := 0) (v := .string ⟨#[109, 97, 114, 107]⟩) (p' := ⟨⟨#[109, 97, 114, 107]⟩, p2.st, p2.A, p2.n, p2.c, p2.l, p2.dead⟩) (hT2.get (i := 5) rfl) hq4 hq1 (by decide) (Turn.refl (Item.all_get (hT2.get (i := 5) rfl) (x := p2.item) (List.mem_cons_of_mem _ (List.mem_map.2 ⟨p2, List.mem_of_getElem? hq1, rfl⟩)))) rfl).1⟩)
                        clear hq1 hq2 hq3 hq4 hq5 hT2 hT hfz a0 a1 a2 a3 hgl
                        go_wp2
                        exact ⟨⟨k + 1, by go_num, hki, T12⟩, by simp [intOf]; omega⟩
            · obtain rfl : m = k := by omega
              have T7 := Lib.hid (show ∃ qs : List Pv, Turn (Item.all []) w (Item.all (s1.item :: Item.clk gc now 5 :: lg gl g gp false q :: kRest gw gd gs gc g gl ++ [gP (some ⟨ga', 0, none⟩) m c' qs])) wr from by obtain ⟨qs, _, _, hT⟩ := hH.out; exact ⟨qs, hT⟩)
              clear hH
              by_cases hee : ee = 0
              · subst hee
                go_wp2
                go_loopw [16] (fun t wr => ∃ k : Nat, t = .int .i64 k ∧ k ≤ K ∧ Hid (∃ qs : List Pv, Turn (Item.all []) w (Item.all (s1.item :: Item.clk gc now 5 :: lg gl g gp false q :: kRest gw gd gs gc g gl ++ [gP (some ⟨ga', 0, none⟩) m c' qs])) wr)) (fun t _ => K - (intOf t).toNat)
                case atStart => exact ⟨0, rfl, Nat.zero_le _, T7⟩
                case round =>
                  clear T7
                  obtain ⟨k, rfl, hk, hT⟩ := hrel
                  by_cases hkK : (k : Int) < (K : Int)
                  · have hki : k + 1 ≤ K := by omega
                    have hkl : k < l.length := by have := HN.out; omega
                    obtain ⟨qs, hT2⟩ := hT.out
                    have T8 := Lib.hid hT2
                    clear hT2 hT
                    obtain ⟨bb, off, Av, cv, hA0, hbb, b1, s0, b2, s2, s3, hval, hvc⟩ := vn_at HS.out hkl
                    clear b1 b2
                    obtain ⟨x, hx⟩ : ∃ x, x = l[k] := ⟨_, rfl⟩
                    rw [← hx] at s0 s2 s3 hval hvc
                    subst hA0
                    have hxm : x ∈ l := by rw [hx]; exact List.getElem_mem _
                    have hr := H.out.2.2.2 (by trivial)
                    obtain ⟨hen, hvw, hnf⟩ : en = 1 ∧ s1.view = applyL [] l 1 ∧ ¬ Falls l := hr.resolve_left (fun e => by rw [e] at hkl; simp at hkl)
                    subst hen
                    have hget := get_any (w := wr.drew) (st := 1) (T8.out.go (Below.refl _ _).drew |>.get (i := 0) rfl) H.out.2.1 (by rw [← HN.out]; omega) (by rw [hvw]; exact ups_applyL (rises hnf)) (HKS.out x hxm).1
                    rw [hvw, show x.key.data.toList = x.k from rfl, get_applyL hnf hxm, H.out.1] at hget
                    obtain ⟨key, st, v, dd⟩ := x
                    simp only at s0 s2 s3 hval hvc hget
                    have HG := Lib.hid hget
                    have HVAL := Lib.hid hval
                    have S2 := Lib.hid (And.intro hbb (And.intro s2 s3))
                    have hbr : bb < wr.drew.heap.size := Nat.lt_of_lt_of_le hbb T8.out.free.size
                    have hgw : gw < wr.drew.heap.size := (show Blk _ _ _ _ from T8.out.get (i := 3) rfl).lt
                    have y0 := (wld_cells (T8.out.get (i := 3) rfl)).1
                    have r0 : wr.cell? ⟨bb, off + k * 4, none⟩ = some (.string key) := (T8.out.free.cell (p := ⟨bb, _, none⟩) hbb).trans s0
                    clear hx hxm hr hvw hnf hget s0 s2 s3 hval hvc hbb hkl
                    cases dd with
                    | true =>
                      have HG2 : Hid (Calls Try.prog 22 #[.pointer (some ⟨gs, 0, none⟩), .string key, .int .i64 1] wr.drew fun e w' => e = .returned (.tuple #[.slice none 0 0, .bool false]) ∧ Below wr.drew.heap.size wr.drew w') := Lib.hid (HG.out.mono (by
                        rintro e w' (⟨_, rfl, hb⟩ | ⟨l', A', c'', h, _⟩)
                        · exact ⟨rfl, hb⟩
                        · cases h))
                      clear HG
                      go_wp2_with fail
                      go_region_held3 (fun w' => w'.cell? ⟨gw, 0, none⟩ = some (.pointer (some ⟨gs, 0, none⟩)) ∧ w'.cell? ⟨bb, off + k * 4, none⟩ = some (.string key)) (first | (with_reducible exact ⟨y0, r0⟩) | (with_reducible exact ⟨z0, z0b⟩) | go_keep) ((go_at_call 22; refine HG2.out.mono ?_; rintro e w9 ⟨rfl, hb⟩; have T9 := Lib.hid (T8.out.go ((Below.refl wr.heap.size wr).drew.trans hb)); have z0 := (hb.cell (p := ⟨gw, 0, none⟩) hgw).trans y0; have z0b := (hb.cell (p := ⟨bb, off + k * 4, none⟩) hbr).trans r0; clear hb))
                      have z2 : w9.cell? ⟨bb, off + k * 4 + 2, none⟩ = some (.slice Av v.length cv) := (T9.out.free.cell (p := ⟨bb, _, none⟩) S2.out.1).trans S2.out.2.1
                      have z3 : w9.cell? ⟨bb, off + k * 4 + 3, none⟩ = some (.bool true) := (T9.out.free.cell (p := ⟨bb, _, none⟩) S2.out.1).trans S2.out.2.2
                      clear y0 r0 z0 z0b hgw hbr
                      go_wp2_with fail
                      go_quiet (fail)
                      go_wp2
                      exact ⟨⟨k + 1, by go_num, hki, Lib.hid ⟨qs, T9.out.go (below_drewN (Below.refl _ _) nq)⟩⟩, by simp [intOf]; omega⟩
                    | false =>
                      have HG2 : Hid (Calls Try.prog 22 #[.pointer (some ⟨gs, 0, none⟩), .string key, .int .i64 1] wr.drew fun e w' => ∃ A' c', e = .returned (.tuple #[.slice A' v.length c', .bool true]) ∧ BReads w' w'.heap.size A' v ∧ Below wr.drew.heap.size wr.drew w') := Lib.hid (HG.out.mono (by
                        rintro e w' (⟨h, _⟩ | ⟨l', A', c'', h, rfl, ho, hb⟩)
                        · cases h
                        · injection h with h
                          subst h
                          obtain ⟨A1, c1, e, _, hr⟩ := BOwns.slice ho
                          injection e with e1 _ e2
                          subst e1
                          exact ⟨_, _, rfl, hr, hb⟩))
                      clear HG
                      go_wp2_with fail
                      go_region_held3 (fun w' => w'.cell? ⟨gw, 0, none⟩ = some (.pointer (some ⟨gs, 0, none⟩)) ∧ w'.cell? ⟨bb, off + k * 4, none⟩ = some (.string key)) (first | (with_reducible exact ⟨y0, r0⟩) | (with_reducible exact ⟨z0, z0b⟩) | go_keep) ((go_at_call 22; refine HG2.out.mono ?_; rintro e w9 ⟨A9, c9, rfl, hr9, hb⟩; have HR9 := Lib.hid hr9; clear hr9; have T9 := Lib.hid (T8.out.go ((Below.refl wr.heap.size wr).drew.trans hb)); have z0 := (hb.cell (p := ⟨gw, 0, none⟩) hgw).trans y0; have z0b := (hb.cell (p := ⟨bb, off + k * 4, none⟩) hbr).trans r0; clear hb))
                      have z2 : w9.cell? ⟨bb, off + k * 4 + 2, none⟩ = some (.slice Av v.length cv) := (T9.out.free.cell (p := ⟨bb, _, none⟩) S2.out.1).trans S2.out.2.1
                      have z3 : w9.cell? ⟨bb, off + k * 4 + 3, none⟩ = some (.bool false) := (T9.out.free.cell (p := ⟨bb, _, none⟩) S2.out.1).trans S2.out.2.2
                      clear y0 r0 z0 z0b hgw hbr
                      have HW9 := Lib.hid (HVAL.out.below T9.out.free)
                      obtain ⟨tx, htx⟩ : ∃ t : ByteArray, t = ⟨v.toArray⟩ := ⟨_, rfl⟩
                      obtain ⟨mm, hmm⟩ : ∃ m, m = v.length := ⟨_, rfl⟩
                      have k1 : ∀ q, (convert 29 9 (.slice A9 mm c9)).run Try.prog (w9.drewN q) = .ok (.string tx) (w9.drewN q) := fun q => by
                        rw [hmm, htx]; exact conv_text (HR9.out.below (below_drewN (Below.refl _ _) q)) c9
                      have k2 : ∀ q, (convert 29 9 (.slice Av mm cv)).run Try.prog (w9.drewN q) = .ok (.string tx) (w9.drewN q) := fun q => by
                        rw [hmm, htx]; exact conv_text (HW9.out.below (below_drewN (Below.refl _ _) q)) cv
                      rw [← hmm] at z2 ⊢
                      clear htx hmm HR9 HW9
                      go_wp2_with fail
                      go_quiet (fail)
                      go_wp2
                      exact ⟨⟨k + 1, by go_num, hki, Lib.hid ⟨qs, T9.out.go (below_drewN (Below.refl _ _) nq)⟩⟩, by simp [intOf]; omega⟩
                  · obtain rfl : k = K := by omega
                    have HB := Lib.hid (show Below w.heap.size w wr from by obtain ⟨qs, hT⟩ := hT.out; exact hT.free)
                    clear hT
                    go_wp2
                    go_ret
                    exact ⟨rfl, HB.out⟩
              · obtain ⟨rfl, rfl⟩ := H.out.2.2.1 hee
                obtain ⟨qs, hT⟩ := T7.out
                have T8 := Lib.hid hT
                obtain ⟨y0, y1, y3⟩ := wld_cells (T8.out.get (i := 3) rfl)
                clear hT T7
                go_wp2_with fail
                refine (cnow_any (T8.out.get (i := 1) rfl)).mono ?_
                rintro e w9 ⟨rfl, rfl⟩
                go_wp2
                go_ret
                exact ⟨rfl, T8.out.free⟩
end Go.Proofs.Ytoecgkdipgaaeaa
