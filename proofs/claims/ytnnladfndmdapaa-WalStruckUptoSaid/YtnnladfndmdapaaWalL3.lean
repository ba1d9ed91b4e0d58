/- WalThere: the walk (printed by a program of this claim's own). -/
import Derived.Test.YtnnladfndmdapaaG18
import Derived.Test.YtnnladfndmdapaaG19
set_option linter.all false
set_option linter.unusedVariables false
set_option linter.unusedSimpArgs false
set_option linter.unnecessarySimpa false
namespace Go.Proofs.Ytnnladfndmdapaa
open Go.RowKit

noncomputable def fitA (ps : List (List En)) : List En := ps.flatMap fitF
theorem fitA_snoc {ps : List (List En)} {K : Nat} (h : K < ps.length) : fitA (ps.take (K + 1)) = fitA (ps.take K) ++ fitF ps[K] := by
  unfold fitA
  rw [List.take_succ_eq_append_getElem h, List.flatMap_append]; simp
theorem fitA_may {ps : List (List En)} : ∀ e ∈ fitA ps, e.may := fun e he => by
  unfold fitA at he
  obtain ⟨l, _, h⟩ := List.mem_flatMap.1 he
  exact fitF_may e h
theorem vsum_len (l : List En) : l.length ≤ vsum l := by
  induction l with
  | nil => simp
  | cons x l ih =>
    have h : vsum (x :: l) = (1 + x.key.size + x.value.length) + vsum l := by unfold vsum; rw [List.map_cons, List.sum_cons]
    rw [h, List.length_cons]; omega
theorem vsum_mem {l : List En} {e : En} (h : e ∈ l) : e.key.size + e.value.length ≤ vsum l := by
  induction l with
  | nil => cases h
  | cons x l ih =>
    have h' : vsum (x :: l) = (1 + x.key.size + x.value.length) + vsum l := by unfold vsum; rw [List.map_cons, List.sum_cons]
    rw [h']
    rcases List.mem_cons.1 h with rfl | h
    · omega
    · have := ih h; omega
theorem vsumA_le {ps : List (List En)} {K : Nat} : vsumA (ps.take K) ≤ vsumA ps := by
  conv => rhs; rw [← List.take_append_drop K ps]
  unfold vsumA
  rw [List.map_append, List.sum_append]; omega
theorem fitA_len (ps : List (List En)) : (fitA ps).length ≤ vsumA ps := by
  induction ps with
  | nil => simp [fitA]
  | cons l ps ih =>
    have h1 : fitA (l :: ps) = fitF l ++ fitA ps := rfl
    have h2 : vsumA (l :: ps) = vsum l + vsumA ps := by unfold vsumA; rw [List.map_cons, List.sum_cons]
    have := fitF_len l
    have := vsum_len l
    rw [h1, h2, List.length_append]; omega
theorem toldCells_append (a b : List Told) : toldCells (a ++ b) = toldCells a ++ toldCells b := by simp [toldCells]
theorem told_one (ts : List Told) : ∀ u ∈ toldCells ts, u.oneCell' = true := by
  intro u hu
  unfold toldCells at hu
  obtain ⟨t, _, h⟩ := List.mem_flatMap.1 hu
  simp only [En.cells, List.mem_cons, List.not_mem_nil, or_false] at h
  rcases h with rfl | rfl | rfl | rfl | rfl | rfl <;> rfl
theorem told_src {w : World} {A : Option Addr} {n c : Nat} {ts : List Told} (h : (Item.rowT 25 6 (.slice A n c) n (toldCells ts)).P w) : Src Try.prog 6 54 (.slice A n c) n (toldCells ts) w := by
  obtain ⟨A1, c1, e, _, hr⟩ := own_slice (show w.ownsRow 0 _ 6 _ n _ from h)
  injection e with e1 _ e2
  subst e1; subst e2
  exact Reads.src hr Try.underlying54 c (told_one ts)
/-- What holds behind so many packs. -/
def ThereI (w : World) (gl g gp : Nat) (ps : List (List En)) (K m c' : Nat) (A' : Option Addr) (wr : World) : Prop :=
  ∃ (q : Pt) (ts : List Told), m = (fitA (ps.take K)).length ∧ ts.map Told.x = fitA (ps.take K) ∧ q.a.base = 0 ∧ q.a.l = framesF (fitA (ps.take K)) ∧ q.a.safe ≤ q.a.l.length ∧ 0 ≤ q.done ∧ q.done ≤ (K : Int) + m ∧
    Turn (Item.all []) w (Item.all [lg gl g gp false q, Item.rowT 25 6 (.slice A' m c') m (toldCells ts)]) wr ∧ ∀ t ∈ ts, t.x.ints ∧ BReads wr w.heap.size t.A t.x.value ∧ t.x.value.length ≤ t.c
set_option maxRecDepth 100000 in
set_option maxHeartbeats 12800000 in
theorem walThere_walk {w : World} {A0 A1 : Option Addr} {c0 c1 : Nat} {ps : List (List En)} {gr : List Bool} (h0 : (kSlice kEn).Sl w w.heap.size A0 ps) (hf0 : (kSlice (kSlice kEn)).fits ps) (h1 : kBool.Sl w w.heap.size A1 gr) (hf1 : (kSlice kBool).fits gr) :
    Calls Try.prog 12 #[.slice A0 ps.length c0, .slice A1 gr.length c1] w (True_ w) := by
  have H0 := Lib.hid h0
  have H1 := Lib.hid h1
  have hlp : ps.length ≤ 140737488355328 := by have := hf0.1; unfold reachBytes at this; omega
  have hlg : gr.length ≤ 140737488355328 := by have := hf1.1; unfold reachBytes at this; omega
  have HL := Lib.hid (show ∀ l ∈ ps, l.length ≤ 140737488355328 ∧ ∀ e ∈ l, e.key.size ≤ 140737488355328 ∧ e.value.length ≤ 140737488355328 from fun l hl => by
    have h := hf0.2 l hl
    refine ⟨by have := h.1; unfold reachBytes at this; omega, fun e he => en_fits (h.2 e he)⟩)
  clear h0 h1 hf0 hf1
  go_enter Try.func12, Try.ntmps12
  go_wp2_with fail
  refine (vast_any H0.out hlp HL.out).mono ?_
  rintro e wv ⟨hbv, hv⟩
  have HBV := Lib.hid hbv
  clear hbv
  rcases hv with rfl | ⟨rfl, hvs⟩
  · go_wp2
    go_ret
    exact ⟨rfl, HBV.out⟩
  have HVS := Lib.hid hvs
  clear hvs
  go_wp2_with fail
  refine (dNew_any (w := wv) 1 (by decide) (by decide)).mono ?_
  rintro e w1 ⟨d, h1, h2, h3, rfl, t1⟩
  obtain ⟨g, gp, ga, rfl⟩ := D_one (w := w) (w' := w) h1 h2 h3
  have T1 := Lib.hid (Turn.pre HBV.out t1)
  clear h1 h2 h3 t1 HBV
  go_wp2_with fail
  refine walFixed_any.mono ?_
  rintro e w2 ⟨rfl, hb⟩
  have T2 := Lib.hid (T1.out.go hb)
  clear T1 hb
  go_wp2_with fail
  refine (lOpen_any T2.out.p (by simp) 0 rfl (by simp [freshPt]) (by simp [freshPt]) (by simp [freshPt]) (by simp [freshPt])).mono ?_
  rintro e w3 ⟨gl, hgl, rfl, hk, hb⟩
  have T3 := Lib.hid (show Turn (Item.all []) w (Item.all [lg gl g gp false (freshPt ga)]) w3 from (T2.out.one.more hb (y := Item.blk gl 119 (logCells ⟨g, gp, false, [freshPt ga]⟩ 0)) hk (fun k e => by cases e; exact hgl)).one)
  clear hk hb T2 hgl
  have HI0 := Lib.hid (show ThereI w gl g gp ps 0 0 0 none w3 from ⟨freshPt ga, [], rfl, rfl, rfl, rfl, Nat.le_refl _, Int.le_refl _, Int.le_refl _, T3.out.add (Below.refl _ _) (World.ownsRow_nil _ _ _ _) (fun k hk => by cases hk), fun t ht => by cases ht⟩)
  clear T3
  go_wp2
  go_loopw [38, 8] (fun t u wr => ∃ (K m c' : Nat) (A' : Option Addr), t = .int .i64 K ∧ u = .slice A' m c' ∧ K ≤ ps.length ∧ m ≤ 1073741824 ∧ Hid (ThereI w gl g gp ps K m c' A' wr)) (fun t _ _ => ps.length - (intOf t).toNat)
  case atStart => exact ⟨0, 0, 0, none, rfl, rfl, by omega, by omega, HI0⟩
  case round =>
    obtain ⟨K, m, c', A', rfl, rfl, hK, hm, hI⟩ := hrel
    by_cases hlt : (K : Int) < (ps.length : Int)
    · have hKN : K < ps.length := by omega
      obtain ⟨q, ts, hml, hts, qb, ql, qs, qd0, qd1, T, hv⟩ := hI.out
      obtain ⟨bb, off, Al, cl, rfl, hbb, s0, hsl, hcl⟩ := packs_at (H0.out.below T.free) hKN
      have HX := Lib.hid (HL.out _ (List.getElem_mem hKN))
      have HFA := Lib.hid (fitA_snoc hKN)
      have hle := fitA_len (ps.take (K + 1))
      have hle2 := vsumA_le (ps := ps) (K := K + 1)
      have hle3 := HVS.out
      rw [fitA_snoc hKN, List.length_append, ← hml] at hle
      obtain ⟨l, hl⟩ : ∃ l, l = ps[K] := ⟨_, rfl⟩
      rw [← hl] at s0 hsl hcl HX HFA hle
      obtain ⟨F, hF⟩ : ∃ F, F = fitF l := ⟨_, rfl⟩
      rw [← hF] at HFA hle
      have hll : l.length ≤ 140737488355328 := HX.out.1
      have hFm : m + F.length ≤ 1073741824 := by omega
      have hFr := framesF_len (es := fitA (ps.take K)) fitA_may
      rw [← hml] at hFr
      have HFR := Lib.hid hFr
      have HML := Lib.hid hml
      have HTS := Lib.hid hts
      obtain ⟨D0, hD0⟩ : ∃ D : Int, D = q.done := ⟨_, rfl⟩
      have HQ := Lib.hid (show q.a.base = 0 ∧ q.a.l = framesF (fitA (ps.take K)) ∧ q.a.safe ≤ q.a.l.length from ⟨qb, ql, qs⟩)
      have hD00 : 0 ≤ D0 := by omega
      have hD01 : D0 ≤ 281474976710656 := by omega
      have hDK : D0 ≤ (K : Int) + m := by omega
      have hw1 : IntKind.i64.wrap (D0 + (F.length : Int)) = D0 + (F.length : Int) := by rw [IntKind.wrap_i64]; omega
      have hw2 : IntKind.i64.wrap (D0 + (F.length : Int) + 1) = D0 + (F.length : Int) + 1 := by rw [IntKind.wrap_i64]; omega
      have HTR := Lib.hid T
      have HV := Lib.hid hv
      have HSL := Lib.hid hsl
      have hKi : K + 1 ≤ ps.length := by omega
      have hfl : l.length ≤ 1099511627776 := by
        have h1 := vsum_len l
        have h2 := vsumA_snoc hKN
        rw [← hl] at h2
        omega
      clear hI hle hle2 hle3 hl hFr hml hts qb ql qs qd0 qd1 T hv hsl
      go_wp2_with fail
      refine (fit_any (c := cl) HTR.out.k.size HSL.out HX.out.2 hfl).mono ?_
      rintro e w4 ⟨us, A4, c4, hus, rfl, t4, hv4⟩
      have T4 := Lib.hid (HTR.out.join t4)
      have HM := Lib.hid (show ∀ e ∈ F, e.may from by rw [hF]; exact fitF_may)
      rw [← hF] at T4 hus ⊢
      have HUS := Lib.hid hus
      have HV4 := Lib.hid (told_go HV.out (t4.free.mono HTR.out.k.size))
      have HU4 := Lib.hid (told_go hv4 (t4.free.mono HTR.out.k.size))
      clear hF hus t4 hv4 HTR HV HSL
      go_wp2_with fail
      refine (dDone_any (d := ⟨g, gp, false, [q]⟩) (lg_disk (T4.out.get (i := 0) rfl)) (by simp) 0 (p := q) rfl).mono ?_
      rintro e w5 ⟨rfl, rfl⟩
      rw [← hD0]
      by_cases hgl : K < gr.length
      · obtain ⟨b1, o1, rfl, hb1, s1⟩ := bools_at (H1.out.below T4.out.free) hgl
        have hgli : (K : Int) < (gr.length : Int) := by omega
        cases hgb : gr[K] with
        | true =>
          rw [hgb] at s1
          clear hgb
          go_wp2_with fail
          refine (group_ok (c := c4) (es := F) (T4.out.get (i := 0) rfl) (by rw [← hD0]; omega) (by rw [← hD0]; omega) (stays_fit T4.out (List.mem_cons_of_mem _ (List.mem_cons_self ..)) HUS.out HU4.out) HM.out (by rw [HQ.out.2.1]; have := HFR.out; omega)).mono ?_
          rintro e w6 ⟨rfl, q2, qb, qs, ql, qd, t⟩
          have T6 := Lib.hid (T4.out.step (i := 0) rfl t)
          have HV6 := Lib.hid (told_go HV4.out (t.below T4.out.k.size (T4.out.fresh (i := 0) rfl)))
          have HU6 := Lib.hid (told_go HU4.out (t.below T4.out.k.size (T4.out.fresh (i := 0) rfl)))
          rw [← hD0] at qd
          have QB := Lib.hid (show q2.a.base = 0 ∧ q2.a.l = framesF (fitA (ps.take K) ++ F) ∧ q2.a.safe ≤ q2.a.l.length ∧ 0 ≤ q2.done ∧ q2.done ≤ D0 + F.length + 1 from by
            rw [HQ.out.2.1, ← framesF_append] at ql
            refine ⟨qb.trans HQ.out.1, ql, ?_, by omega, by omega⟩
            rw [qs, ql, HQ.out.2.1]; simp [framesF_append])
          clear t qb qs ql T4 HU4 HV4
          go_wp2_with fail
          refine (dDone_any (d := ⟨g, gp, false, [q2]⟩) (lg_disk (T6.out.get (i := 0) rfl)) (by simp) 0 (p := q2) rfl).mono ?_
          rintro e w7 ⟨rfl, rfl⟩
          rw [qd]
          clear qd
          go_wp2_with (at_builtin; refine Stop.of ?_)
          have HSR := Lib.hid (told_src (T6.out.get (i := 2) rfl))
          refine ⟨wpList_append_any _ rfl rfl 0 Try.underlying54 Try.info25 rfl (by decide) (by decide) rfl (T6.out.get (i := 1) rfl) rfl HSR.out (by omega) (Nat.zero_le _) ?_⟩
          intro v' w8 ho hg hf
          have T8 := Lib.hid (T6.out.step (i := 1) rfl (Turn.rowT (v := .slice A' m c') (n := m) (xs := toldCells ts) ho hg hf))
          have hg2 : w6.grownBy w8 (Value.slice A' m c').ownBlock := hg
          have hbw := Below.grown (Below.refl w.heap.size w6) hg2 T6.out.k.size (fun k hk => T6.out.fresh (i := 1) rfl k hk)
          obtain ⟨A8, c8, rfl, _, _⟩ := own_slice ho
          have HR := Lib.hid (show ThereI w gl g gp ps (K + 1) (m + F.length) c8 A8 w8 from
            ⟨q2, ts ++ us, by rw [HFA.out, List.length_append, ← HML.out], by rw [HFA.out, List.map_append, HTS.out, HUS.out], QB.out.1, by rw [QB.out.2.1, HFA.out], QB.out.2.2.1, QB.out.2.2.2.1, by have := QB.out.2.2.2.2; omega, by
              have h1 := T8.out.sub (M := [lg gl g gp false q2, Item.rowT 25 6 (.slice A8 (m + F.length) c8) (m + F.length) (toldCells (ts ++ us))]) (by rw [toldCells_append]; exact List.Sublist.cons_cons _ (List.Sublist.cons_cons _ (List.nil_sublist _)))
              exact h1, fun t ht => by
              rcases List.mem_append.1 ht with ht | ht
              · exact told_go HV6.out hbw t ht
              · exact told_go HU6.out hbw t ht⟩)
          clear ho hg hg2 hf T8 T6 HSR hbw HV6 HU6 QB HFA HTS HUS HML HQ
          go_wp2
          exact ⟨⟨K + 1, m + F.length, c8, A8, by go_num, rfl, hKi, by omega, HR⟩, by simp [intOf]; omega⟩
        | false =>
          rw [hgb] at s1
          clear hgb
          go_wp2_with fail
          refine (write_ok (c := c4) (es := F) (T4.out.get (i := 0) rfl) (by rw [← hD0]; omega) (by rw [← hD0]; omega) (stays_fit T4.out (List.mem_cons_of_mem _ (List.mem_cons_self ..)) HUS.out HU4.out) HM.out (by rw [HQ.out.2.1]; have := HFR.out; omega)).mono ?_
          rintro e w6 ⟨rfl, q2, qb, qs, ql, qd, t⟩
          have T6 := Lib.hid (T4.out.step (i := 0) rfl t)
          have HV6 := Lib.hid (told_go HV4.out (t.below T4.out.k.size (T4.out.fresh (i := 0) rfl)))
          have HU6 := Lib.hid (told_go HU4.out (t.below T4.out.k.size (T4.out.fresh (i := 0) rfl)))
          rw [← hD0] at qd
          have QB := Lib.hid (show q2.a.base = 0 ∧ q2.a.l = framesF (fitA (ps.take K) ++ F) ∧ q2.a.safe ≤ q2.a.l.length ∧ 0 ≤ q2.done ∧ q2.done ≤ D0 + F.length + 1 from by
            rw [HQ.out.2.1, ← framesF_append] at ql
            refine ⟨qb.trans HQ.out.1, ql, ?_, by omega, by omega⟩
            have := HQ.out.2.2; rw [qs, ql]; rw [HQ.out.2.1] at this; rw [framesF_append, List.length_append]; omega)
          clear t qb qs ql T4 HU4 HV4
          go_wp2_with fail
          refine (dDone_any (d := ⟨g, gp, false, [q2]⟩) (lg_disk (T6.out.get (i := 0) rfl)) (by simp) 0 (p := q2) rfl).mono ?_
          rintro e w7 ⟨rfl, rfl⟩
          rw [qd]
          clear qd
          go_wp2_with (at_builtin; refine Stop.of ?_)
          have HSR := Lib.hid (told_src (T6.out.get (i := 2) rfl))
          refine ⟨wpList_append_any _ rfl rfl 0 Try.underlying54 Try.info25 rfl (by decide) (by decide) rfl (T6.out.get (i := 1) rfl) rfl HSR.out (by omega) (Nat.zero_le _) ?_⟩
          intro v' w8 ho hg hf
          have T8 := Lib.hid (T6.out.step (i := 1) rfl (Turn.rowT (v := .slice A' m c') (n := m) (xs := toldCells ts) ho hg hf))
          have hg2 : w6.grownBy w8 (Value.slice A' m c').ownBlock := hg
          have hbw := Below.grown (Below.refl w.heap.size w6) hg2 T6.out.k.size (fun k hk => T6.out.fresh (i := 1) rfl k hk)
          obtain ⟨A8, c8, rfl, _, _⟩ := own_slice ho
          have HR := Lib.hid (show ThereI w gl g gp ps (K + 1) (m + F.length) c8 A8 w8 from
            ⟨q2, ts ++ us, by rw [HFA.out, List.length_append, ← HML.out], by rw [HFA.out, List.map_append, HTS.out, HUS.out], QB.out.1, by rw [QB.out.2.1, HFA.out], QB.out.2.2.1, QB.out.2.2.2.1, by have := QB.out.2.2.2.2; omega, by
              have h1 := T8.out.sub (M := [lg gl g gp false q2, Item.rowT 25 6 (.slice A8 (m + F.length) c8) (m + F.length) (toldCells (ts ++ us))]) (by rw [toldCells_append]; exact List.Sublist.cons_cons _ (List.Sublist.cons_cons _ (List.nil_sublist _)))
              exact h1, fun t ht => by
              rcases List.mem_append.1 ht with ht | ht
              · exact told_go HV6.out hbw t ht
              · exact told_go HU6.out hbw t ht⟩)
          clear ho hg hg2 hf T8 T6 HSR hbw HV6 HU6 QB HFA HTS HUS HML HQ
          go_wp2
          exact ⟨⟨K + 1, m + F.length, c8, A8, by go_num, rfl, hKi, by omega, HR⟩, by simp [intOf]; omega⟩
      · have hgli : ¬ (K : Int) < (gr.length : Int) := by omega
        go_wp2_with fail
        refine (write_ok (c := c4) (es := F) (T4.out.get (i := 0) rfl) (by rw [← hD0]; omega) (by rw [← hD0]; omega) (stays_fit T4.out (List.mem_cons_of_mem _ (List.mem_cons_self ..)) HUS.out HU4.out) HM.out (by rw [HQ.out.2.1]; have := HFR.out; omega)).mono ?_
        rintro e w6 ⟨rfl, q2, qb, qs, ql, qd, t⟩
        have T6 := Lib.hid (T4.out.step (i := 0) rfl t)
        have HV6 := Lib.hid (told_go HV4.out (t.below T4.out.k.size (T4.out.fresh (i := 0) rfl)))
        have HU6 := Lib.hid (told_go HU4.out (t.below T4.out.k.size (T4.out.fresh (i := 0) rfl)))
        rw [← hD0] at qd
        have QB := Lib.hid (show q2.a.base = 0 ∧ q2.a.l = framesF (fitA (ps.take K) ++ F) ∧ q2.a.safe ≤ q2.a.l.length ∧ 0 ≤ q2.done ∧ q2.done ≤ D0 + F.length + 1 from by
          rw [HQ.out.2.1, ← framesF_append] at ql
          refine ⟨qb.trans HQ.out.1, ql, ?_, by omega, by omega⟩
          have := HQ.out.2.2; rw [qs, ql]; rw [HQ.out.2.1] at this; rw [framesF_append, List.length_append]; omega)
        clear t qb qs ql T4 HU4 HV4
        go_wp2_with fail
        refine (dDone_any (d := ⟨g, gp, false, [q2]⟩) (lg_disk (T6.out.get (i := 0) rfl)) (by simp) 0 (p := q2) rfl).mono ?_
        rintro e w7 ⟨rfl, rfl⟩
        rw [qd]
        clear qd
        go_wp2_with (at_builtin; refine Stop.of ?_)
        have HSR := Lib.hid (told_src (T6.out.get (i := 2) rfl))
        refine ⟨wpList_append_any _ rfl rfl 0 Try.underlying54 Try.info25 rfl (by decide) (by decide) rfl (T6.out.get (i := 1) rfl) rfl HSR.out (by omega) (Nat.zero_le _) ?_⟩
        intro v' w8 ho hg hf
        have T8 := Lib.hid (T6.out.step (i := 1) rfl (Turn.rowT (v := .slice A' m c') (n := m) (xs := toldCells ts) ho hg hf))
        have hg2 : w6.grownBy w8 (Value.slice A' m c').ownBlock := hg
        have hbw := Below.grown (Below.refl w.heap.size w6) hg2 T6.out.k.size (fun k hk => T6.out.fresh (i := 1) rfl k hk)
        obtain ⟨A8, c8, rfl, _, _⟩ := own_slice ho
        have HR := Lib.hid (show ThereI w gl g gp ps (K + 1) (m + F.length) c8 A8 w8 from
          ⟨q2, ts ++ us, by rw [HFA.out, List.length_append, ← HML.out], by rw [HFA.out, List.map_append, HTS.out, HUS.out], QB.out.1, by rw [QB.out.2.1, HFA.out], QB.out.2.2.1, QB.out.2.2.2.1, by have := QB.out.2.2.2.2; omega, by
            have h1 := T8.out.sub (M := [lg gl g gp false q2, Item.rowT 25 6 (.slice A8 (m + F.length) c8) (m + F.length) (toldCells (ts ++ us))]) (by rw [toldCells_append]; exact List.Sublist.cons_cons _ (List.Sublist.cons_cons _ (List.nil_sublist _)))
            exact h1, fun t ht => by
            rcases List.mem_append.1 ht with ht | ht
            · exact told_go HV6.out hbw t ht
            · exact told_go HU6.out hbw t ht⟩)
        clear ho hg hg2 hf T8 T6 HSR hbw HV6 HU6 QB HFA HTS HUS HML HQ
        go_wp2
        exact ⟨⟨K + 1, m + F.length, c8, A8, by go_num, rfl, hKi, by omega, HR⟩, by simp [intOf]; omega⟩
    · obtain rfl : K = ps.length := by omega
      obtain ⟨q, ts, hml, hts, qb, ql, qs, qd0, qd1, T, hv⟩ := hI.out
      rw [List.take_length] at hml hts ql
      obtain ⟨L, hL⟩ : ∃ L, L = fitA ps := ⟨_, rfl⟩
      have HM := Lib.hid (show ∀ e ∈ L, e.may from by rw [hL]; exact fitA_may)
      rw [← hL] at hml hts ql
      have hFr := framesF_len HM.out
      have hLl : L.length ≤ 1073741824 := by omega
      subst hml
      have HTS := Lib.hid hts
      have HV := Lib.hid hv
      have HQ := Lib.hid (show q.a.base = 0 ∧ q.a.l = framesF L ∧ q.a.safe ≤ q.a.l.length from ⟨qb, ql, qs⟩)
      have HT := Lib.hid T
      have W1 := Lib.hid (entries_ok (z := []) (T.get (i := 0) rfl) (by rw [qb]; decide) (by rw [qb]; decide) (by rw [ql]; omega) qs (by rw [ql, List.append_nil]) HM.out (fun b h => by cases h))
      clear hL hI hts qb ql qs qd0 qd1 T hv hlt
      go_wp2_with fail
      refine W1.out.mono ?_
      rintro e w4 ⟨vs, A4, A5, c4, c5, hvs, rfl, t4⟩
      have T4 := Lib.hid (HT.out.join t4)
      have SA := Lib.hid (sl_ents t4.p (List.mem_cons_self ..) (fun i hi => List.mem_cons_of_mem _ (List.mem_cons_of_mem _ hi)) hvs HM.out)
      have SB := Lib.hid (sl_fit T4.out.k.size (T4.out.get (i := 1) rfl) HTS.out (told_go HV.out (t4.free.mono HT.out.k.size)))
      have RA := Lib.hid (rowI_reads (t4.get (i := 1) rfl) (endsI_len _ _).symm)
      have W2 := Lib.hid (lBounds_any (d := ⟨g, gp, false, [q]⟩) 0 (p := q) (T4.out.get (i := 0) rfl) (by simp) rfl (by rw [HQ.out.1]; decide) (by rw [HQ.out.1]; decide) (by rw [HQ.out.2.1]; omega) HQ.out.2.2)
      clear W1 HT HV hvs t4
      go_wp2_with fail
      refine W2.out.mono ?_
      rintro e w5 ⟨rfl, hb⟩
      have T5 := Lib.hid (T4.out.go hb)
      have W3 := Lib.hid (Alike_true (c := c4) (c' := c') ((SA.out.below hb).more hb.size) ((SB.out.below hb).more hb.size) (by omega))
      have RB := Lib.hid ((RA.out.1.below hb).more hb.size)
      have hc5 := RA.out.2
      rw [HQ.out.1, HQ.out.2.1]
      clear W2 T4 SA SB RA hb
      go_wp2_with fail
      refine W3.out.mono ?_
      rintro e w6 ⟨rfl, hb⟩
      have HB := Lib.hid (T5.out.go hb).free
      have RC := Lib.hid ((RB.out.below hb).more hb.size)
      rw [HQ.out.1] at RC
      clear W3 T5 RB hb
      by_cases hL0 : L.length = 0
      · have hf0 : ((framesF L).length : Int) = 0 := by omega
        clear RC
        go_wp2
        go_ret
        exact ⟨rfl, HB.out⟩
      · obtain ⟨i1, hi1⟩ : ∃ i, L.length = i + 1 := ⟨L.length - 1, by omega⟩
        obtain ⟨eb, eo, rfl, heb, hec⟩ := RC.out.at_ (k := i1) (by rw [endsI_len]; omega)
        have hec' : w6.cell? ⟨eb, eo + i1, none⟩ = some (.int .i64 ((framesF L).length : Int)) := by
          rw [hec]
          have h1 := endsI_get 0 (es := L) (i := i1) (by omega)
          rw [List.take_of_length_le (by omega)] at h1
          obtain ⟨h2, h3⟩ := List.getElem?_eq_some_iff.1 h1
          rw [h3, Int.zero_add]
        have hsub : (L.length : Int) - 1 = (i1 : Int) := by omega
        have hwr : IntKind.i64.wrap (i1 : Int) = (i1 : Int) := by rw [IntKind.wrap_i64]; omega
        have hi1L : (i1 : Int) < (L.length : Int) := by omega
        have hLi : ¬ (L.length : Int) = 0 := by omega
        clear hi1 hec RC
        go_wp2
        go_ret
        exact ⟨rfl, HB.out⟩
end Go.Proofs.Ytnnladfndmdapaa
