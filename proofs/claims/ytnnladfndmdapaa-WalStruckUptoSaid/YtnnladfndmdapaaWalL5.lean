/- WalStruck: the walk (printed by a program of this claim's own). -/
import Derived.Test.YtnnladfndmdapaaG18
import Derived.Test.YtnnladfndmdapaaG21
import Derived.Test.YtnnladfndmdapaaWalL3
set_option linter.all false
set_option linter.unusedVariables false
set_option linter.unusedSimpArgs false
set_option linter.unnecessarySimpa false
namespace Go.Proofs.Ytnnladfndmdapaa
open Go.RowKit

/-- A log alone on its disk, whose power is to go. -/
theorem ft_blk {w : World} {B g : Nat} {a b c : Int} (h : Blk w g 80 #[.int .i64 a, .int .i64 b, .int .u8 c]) (hB : g < B) (ha : (Lit.int .i64 a).wf = true) (hb : (Lit.int .i64 b).wf = true) (hc : (Lit.int .u8 c).wf = true) : kFt.Sl w B (some ⟨g, 0, none⟩) [⟨a, b, c⟩] := by
  intro _
  refine ⟨g, 0, rfl, hB, fun j x hx => ?_⟩
  have hj : j < 1 := (List.getElem?_eq_some_iff.1 hx).1
  obtain rfl : j = 0 := by omega
  simp only [List.getElem?_cons_zero, Option.some.injEq] at hx
  subst hx
  refine ⟨[.int .i64 a, .int .i64 b, .int .u8 c], ⟨[_], _, rfl, ⟨rfl, ha⟩, [_], _, rfl, ⟨rfl, hb⟩, ⟨rfl, hc⟩⟩, fun t u hu => ?_⟩
  have := h.cell t
  rw [show 0 + 0 * kFt.size + t = t from by omega, this, ← hu, List.getElem?_toArray]
theorem ft_open {w : World} {B : Nat} {t : Ft} {cs : Array Value} (h : kFt.R w B t (Value.agg cs).cells.toList) : cs = #[.int .i64 t.done, .int .i64 t.keep, .int .u8 t.torn] ∧ (Lit.int .i64 t.done).wf = true ∧ (Lit.int .i64 t.keep).wf = true ∧ (Lit.int .u8 t.torn).wf = true := by
  obtain ⟨d1, d2, e1, ⟨rfl, hk⟩, d3, d4, rfl, ⟨rfl, hs⟩, ⟨rfl, hn⟩⟩ := h
  exact ⟨Array.ext' e1, hk, hs, hn⟩
theorem arm_lg {w0 w : World} {gl g gp : Nat} {ar : Bool} {p : Pt} {rest : List Item} {a b c : Int} (T : Turn (Item.all []) w0 (Item.all (lg gl g gp ar p :: rest)) w) (ha : (Lit.int .i64 a).wf = true) (hb : (Lit.int .i64 b).wf = true) (hc : (Lit.int .u8 c).wf = true) :
    Calls Try.prog 49 #[.pointer (some ⟨g, 0, none⟩), .slice (some ⟨w.heap.size, 0, none⟩) 1 1] (w.alloc (.cells #[.int .i64 a, .int .i64 b, .int .u8 c] 80)) fun e w' => e = .returned (.tuple #[]) ∧
      Turn (Item.all []) w0 (Item.all (lg gl g gp true { p with fd := a, fk := b, ft := c, done := 0 } :: rest)) w' := by
  have B1 := (Below.refl w.heap.size w).alloc (Nat.le_refl _) (.cells #[.int .i64 a, .int .i64 b, .int .u8 c] 80)
  have T1 := T.go B1
  have hlg := T1.get (i := 0) rfl
  have K := Blk.new w 80 #[.int .i64 a, .int .i64 b, .int .u8 c]
  have hS : Stays (Dk.item ⟨g, gp, ar, [p]⟩).own (w.alloc (.cells #[.int .i64 a, .int .i64 b, .int .u8 c] 80)) (fun w' => kFt.Sl w' (w.alloc (.cells #[.int .i64 a, .int .i64 b, .int .u8 c] 80)).heap.size (some ⟨w.heap.size, 0, none⟩) [⟨a, b, c⟩]) := fun w' hk => by
    refine ft_blk ((hk w.heap.size K.lt fun ho => ?_).trans K) K.lt ha hb hc
    have h1 := Item.lt _ (lg_disk (T.get (i := 0) rfl)) ho
    omega
  refine (arm_call (d := ⟨g, gp, ar, [p]⟩) (A := some ⟨w.heap.size, 0, none⟩) (c := 1) (fs := [⟨a, b, c⟩]) (lg_disk hlg) (by simp) hS (by simp)).mono ?_
  rintro e w' ⟨rfl, t⟩
  refine ⟨rfl, ?_⟩
  have t2 := lg_turn (i := 0) hlg t rfl
  exact T1.step (i := 0) rfl t2
theorem strike_lg {w0 w : World} {gl g gp : Nat} {p : Pt} {rest : List Item} (T : Turn (Item.all []) w0 (Item.all (lg gl g gp true p :: rest)) w) (hs : p.a.safe ≤ p.a.l.length) (hl : p.a.l.length ≤ 140737488355328) (hf0 : 0 ≤ p.ft) (hf1 : p.ft < 256) :
    Calls Try.prog 50 #[.pointer (some ⟨g, 0, none⟩)] w fun e w' => e = .returned (.tuple #[]) ∧
      Turn (Item.all []) w0 (Item.all (lg gl g gp false { p with a := p.a.crash p.fk (ftB p.ft), fd := 0, fk := 0, ft := 0, done := 0 } :: rest)) w' := by
  refine (strike_any (d := ⟨g, gp, true, [p]⟩) (lg_disk (T.get (i := 0) rfl)) (by simp) (fun q hq => by simp only [List.mem_cons, List.not_mem_nil, or_false] at hq; subst hq; exact ⟨hs, hl, hf0, hf1⟩)).mono ?_
  rintro e w' ⟨rfl, t⟩
  exact ⟨rfl, T.step (i := 0) rfl (lg_turn (i := 0) (T.get (i := 0) rfl) t rfl)⟩
/-- What a Write or a Group of an armed log alone on its disk has come to. -/
def StruckPost (gl g gp : Nat) (p : Pt) (es : List En) (grp : Bool) (w : World) (e : Ending) (w' : World) : Prop :=
  ∃ (m : Int) (K : Nat) (q : Pt), (m = 0 ∨ m = 80) ∧ e = .returned (.int .i64 m) ∧ K ≤ es.length ∧ q.a.base = p.a.base ∧ q.fk = p.fk ∧ q.ft = p.ft ∧ q.a.l = p.a.l ++ framesF (es.take K) ∧ (q.a.safe = p.a.safe ∨ (K = es.length ∧ q.a.safe = q.a.l.length)) ∧
    (grp = true → m = 0 → K = es.length ∧ q.a.safe = q.a.l.length) ∧ Turn (lg gl g gp true p) w (lg gl g gp true q) w'
section
variable {w : World} {gl g gp : Nat} {p : Pt} {A : Option Addr} {c : Nat} {es : List En}
theorem write_struck (h : (lg gl g gp true p).P w) (hd0 : 0 ≤ p.done) (hd1 : p.done ≤ 100000000000000000) (hS : Stays (lg gl g gp true p).own w (fun w' => kEn.Sl w' w.heap.size A es)) (hm : ∀ e ∈ es, e.may) (htot : p.a.l.length + 5009 * es.length ≤ 140737488355328) :
    Calls Try.prog 43 #[.pointer (some ⟨gl, 0, none⟩), .slice A es.length c] w (StruckPost gl g gp p es false w) := by
  refine (lWrite_any (d := ⟨g, gp, true, [p]⟩) 0 (p := p) h (by simp) rfl hd0 hd1 hS (may_size hm) htot).mono ?_
  rintro e w' ⟨K, A', c', m, hK, rfl, _, _, hc, hT⟩
  refine ⟨m, K, { p with a := { p.a with A := A', c := c', l := p.a.l ++ framesF (es.take K) }, done := p.done + K }, ?_, rfl, hK, rfl, rfl, rfl, rfl, .inl rfl, (fun h => by cases h), hT⟩
  rcases hc with ⟨rfl, _⟩ | ⟨_, hK, hn⟩ | ⟨rfl, _⟩
  · exact .inl rfl
  · exact absurd (hm _ (List.getElem_mem hK)) hn
  · exact .inr rfl
theorem group_struck (h : (lg gl g gp true p).P w) (hd0 : 0 ≤ p.done) (hd1 : p.done ≤ 100000000000000000) (hS : Stays (lg gl g gp true p).own w (fun w' => kEn.Sl w' w.heap.size A es)) (hm : ∀ e ∈ es, e.may) (htot : p.a.l.length + 5009 * es.length ≤ 140737488355328) :
    Calls Try.prog 39 #[.pointer (some ⟨gl, 0, none⟩), .slice A es.length c] w (StruckPost gl g gp p es true w) := by
  refine (lGroup_any (d := ⟨g, gp, true, [p]⟩) 0 (p := p) h (by simp) rfl hd0 hd1 hS (may_size hm) htot).mono ?_
  rintro e w' (⟨_, ⟨x, hx, hn⟩, _⟩ | ⟨_, K, A', c', hK, rfl, _, _, _, hT⟩ | ⟨_, _, A', c', rfl, hT⟩)
  · exact absurd (hm x hx) hn
  · exact ⟨80, K, { p with a := { p.a with A := A', c := c', l := p.a.l ++ framesF (es.take K) }, done := p.done + K }, .inr rfl, rfl, hK, rfl, rfl, rfl, rfl, .inl rfl, (fun _ h => by cases h), hT⟩
  · refine ⟨0, es.length, { p with a := { p.a with A := A', c := c', l := p.a.l ++ framesF es, safe := (p.a.l ++ framesF es).length }, done := p.done + es.length + 1 }, .inl rfl, rfl, Nat.le_refl _, rfl, rfl, rfl, ?_, .inr ⟨rfl, rfl⟩, fun _ _ => ⟨rfl, rfl⟩, hT⟩
    rw [List.take_length]
end
set_option maxRecDepth 100000 in
set_option maxHeartbeats 12800000 in
theorem walStruck_walk {wi : World} {A0 A1 : Option Addr} {c0 c1 : Nat} {es fr : List En} (h0 : kEn.Sl wi wi.heap.size A0 es) (h1 : kEn.Sl wi wi.heap.size A1 fr) (grp : Bool) (fd fk ft : Int) (hfd : (Lit.int .i64 fd).wf = true) (hfk : (Lit.int .i64 fk).wf = true) (hft : (Lit.int .u8 ft).wf = true)
    (hk : (kSlice kEn).bulk es + (kSlice kEn).bulk fr ≤ 1048576) :
    Calls Try.prog 13 #[.slice A0 es.length c0, .slice A1 fr.length c1, .bool grp, .agg #[.int .i64 fd, .int .i64 fk, .int .u8 ft]] wi (True_ wi) := by
  have HI0 := Lib.hid h0
  have HI1 := Lib.hid h1
  have hle := (ens_bulk es).1
  have hlf := (ens_bulk fr).1
  have HS0 := Lib.hid (ens_size (l := es) (by omega))
  have HS1 := Lib.hid (ens_size (l := fr) (by omega))
  have hles : es.length ≤ 1048576 := by omega
  have hlfr : fr.length ≤ 1048576 := by omega
  have HFD := Lib.hid hfd
  have HFK := Lib.hid hfk
  have HFT := Lib.hid hft
  have hft' : 0 ≤ ft ∧ ft < 256 := by
    have h : 0 ≤ ft ∧ ft ≤ 255 := by simpa [Lit.wf, IntKind.min, IntKind.max, IntKind.signed, IntKind.bits] using hft
    omega
  have HFB := Lib.hid hft'
  clear h0 h1 hk hle hlf hfd hfk hft hft'
  go_enter Try.func13, Try.ntmps13
  go_wp2_with fail
  obtain ⟨w, hw⟩ : ∃ x, x = wi.alloc (.cells #[.int .i64 fd, .int .i64 fk, .int .u8 ft] 80) := ⟨_, rfl⟩
  obtain ⟨g7, hg7⟩ : ∃ x, x = wi.heap.size := ⟨_, rfl⟩
  have HBI := Lib.hid (show Below wi.heap.size wi w from by rw [hw]; exact (Below.refl _ _).alloc (Nat.le_refl _) _)
  have HB7 := Lib.hid (show Blk w g7 80 #[.int .i64 fd, .int .i64 fk, .int .u8 ft] from by rw [hw, hg7]; exact Blk.new _ _ _)
  have H0 := Lib.hid ((HI0.out.below HBI.out).more HBI.out.size)
  have H1 := Lib.hid ((HI1.out.below HBI.out).more HBI.out.size)
  rw [← hw, ← hg7]
  clear hw hg7 HI0 HI1
  refine (dNew_any (w := w) 1 (by decide) (by decide)).mono ?_
  rintro e w1 ⟨d, h1, h2, h3, rfl, t1⟩
  obtain ⟨g, gp, ga, rfl⟩ := D_one (w := w) (w' := w) h1 h2 h3
  have T1 := Lib.hid t1
  clear h1 h2 h3 t1
  go_wp2_with fail
  refine walFixed_any.mono ?_
  rintro e w2 ⟨rfl, hb⟩
  have T2 := Lib.hid (T1.out.go hb)
  clear T1 hb
  go_wp2_with fail
  refine (lOpen_any T2.out.p (by simp) 0 rfl (by simp [freshPt]) (by simp [freshPt]) (by simp [freshPt]) (by simp [freshPt])).mono ?_
  rintro e w3 ⟨gl, hgl, rfl, hk, hb⟩
  have T3 := Lib.hid (show Turn (Item.all []) w (Item.all [lg gl g gp false (freshPt ga)]) w3 from (T2.out.one.more hb (y := Item.blk gl 119 (logCells ⟨g, gp, false, [freshPt ga]⟩ 0)) hk (fun k e => by cases e; exact hgl)).one)
  clear hk hb T2 hgl
  go_wp2_with fail
  have W4 := Lib.hid (fit_any (c := c0) T3.out.k.size (H0.out.below T3.out.free) HS0.out (by omega))
  refine W4.out.mono ?_
  rintro e w4 ⟨ts, A4, c4, hts, rfl, t4, hv4⟩
  have T4 := Lib.hid (T3.out.join t4)
  obtain ⟨F, hF⟩ : ∃ F, F = fitF es := ⟨_, rfl⟩
  have HM := Lib.hid (show ∀ e ∈ F, e.may from by rw [hF]; exact fitF_may)
  have hFl : F.length ≤ es.length := by rw [hF]; exact fitF_len es
  rw [← hF] at T4 hts ⊢
  have HTS := Lib.hid hts
  have HV := Lib.hid (told_go hv4 (t4.free.mono T3.out.k.size))
  clear hF W4 hts t4 hv4 T3
  go_wp2_with fail
  have W5 := Lib.hid (fit_any (c := c1) T4.out.k.size (H1.out.below T4.out.free) HS1.out (by omega))
  refine W5.out.mono ?_
  rintro e w5 ⟨us, A5, c5, hus, rfl, t5, hv5⟩
  have T5 := Lib.hid (T4.out.join t5)
  obtain ⟨G, hG⟩ : ∃ G, G = fitF fr := ⟨_, rfl⟩
  have HN := Lib.hid (show ∀ e ∈ G, e.may from by rw [hG]; exact fitF_may)
  have hGl : G.length ≤ fr.length := by rw [hG]; exact fitF_len fr
  rw [← hG] at T5 hus ⊢
  have HUS := Lib.hid hus
  have HVW := Lib.hid (told_back HV.out T4.out.free)
  have HUW := Lib.hid (told_back hv5 T4.out.free)
  clear hG W5 hus t5 hv5 T4 HV
  have HFr := framesF_len HM.out
  have HGr := framesF_len HN.out
  have W6 := Lib.hid (group_ok (c := c4) (es := F) (T5.out.get (i := 0) rfl) (Int.le_refl 0) (show (0 : Int) ≤ _ by decide) (stays_fit T5.out (List.mem_cons_self ..) HTS.out (told_go HVW.out T5.out.free)) HM.out (show 0 + 5009 * F.length ≤ _ by omega))
  go_wp2_with fail
  refine W6.out.mono ?_
  rintro e w6 ⟨rfl, q, qb, qs, ql, qd, t⟩
  have T6 := Lib.hid (T5.out.step (i := 0) rfl t)
  have HQ := Lib.hid (show q.a.base = 0 ∧ q.a.l = framesF F ∧ q.a.safe = (framesF F).length from ⟨qb, ql, qs⟩)
  clear W6 T5 qb qs ql qd t
  have k0 := (Blk.cell (HB7.out.below' T6.out.free)) 0
  have k1 := (Blk.cell (HB7.out.below' T6.out.free)) 1
  have k2 := (Blk.cell (HB7.out.below' T6.out.free)) 2
  simp at k0 k1 k2
  go_wp2_with fail
  refine (arm_lg T6.out HFD.out HFK.out HFT.out).mono ?_
  rintro e w7 ⟨rfl, t7⟩
  have T7 := Lib.hid t7
  clear t7 T6 k0 k1 k2
  have SV := Lib.hid (stays_fit T7.out (List.mem_cons_of_mem _ (List.mem_cons_self ..)) HUS.out (told_go HUW.out T7.out.free))
  cases grp with
  | true =>
    go_wp2_with fail
    refine (group_struck (c := c5) (T7.out.get (i := 0) rfl) (Int.le_refl 0) (show (0 : Int) ≤ _ by decide) SV.out HN.out (show q.a.l.length + 5009 * G.length ≤ _ by rw [HQ.out.2.1]; omega)).mono ?_
    rintro e w8 ⟨m, K, q3, hm, rfl, hK, qb, qk, qt, ql, qs, qg, t⟩
    have T8 := Lib.hid (T7.out.step (i := 0) rfl t)
    rcases hm with rfl | rfl
    · have HQ4 := Lib.hid (show q3.a.base = 0 ∧ q3.a.l = framesF F ++ framesF (G.take K) ∧ (q3.a.safe = (framesF F).length ∨ K = G.length ∧ q3.a.safe = q3.a.l.length) ∧ q3.ft = ft ∧ q3.a.safe ≤ q3.a.l.length ∧ q3.a.l.length ≤ 8796093022208 from by
        rw [show ({ q with fd := fd, fk := fk, ft := ft, done := 0 } : Pt).a.l = framesF F from HQ.out.2.1] at ql
        rw [show ({ q with fd := fd, fk := fk, ft := ft, done := 0 } : Pt).a.safe = (framesF F).length from HQ.out.2.2] at qs
        rw [show ({ q with fd := fd, fk := fk, ft := ft, done := 0 } : Pt).a.base = 0 from HQ.out.1] at qb
        have h1 := framesF_len (es := G.take K) (fun e he => HN.out e (List.mem_of_mem_take he))
        have h2 : (G.take K).length ≤ G.length := by rw [List.length_take]; omega
        have h3 := congrArg List.length ql
        rw [List.length_append] at h3
        refine ⟨qb, ql, qs, qt, ?_, by omega⟩
        rcases qs with h | ⟨_, h⟩ <;> omega)
      have HG := Lib.hid qg
      clear qb qk qt ql qs qg t T7
      go_wp2_with fail
      refine (strike_lg T8.out HQ4.out.2.2.2.2.1 (by have := HQ4.out.2.2.2.2.2; omega) (by rw [HQ4.out.2.2.2.1]; exact HFB.out.1) (by rw [HQ4.out.2.2.2.1]; exact HFB.out.2)).mono ?_
      rintro e w9 ⟨rfl, t9⟩
      have T9 := Lib.hid t9
      obtain ⟨M, hM, hMG, htell⟩ : ∃ M, M ≤ G.length ∧ (K = G.length → q3.a.safe = q3.a.l.length → M = G.length) ∧ tellF (q3.a.crash q3.fk (ftB q3.ft)).l = endsF 0 (F ++ G.take M) := by
        by_cases hfull : q3.a.safe = q3.a.l.length
        · refine ⟨K, hK, fun h _ => h, ?_⟩
          rw [crash_full hfull, HQ4.out.2.1, ← framesF_append, tellF_frames (fun e he => by
            rcases List.mem_append.1 he with h | h
            · exact HM.out e h
            · exact HN.out e (List.mem_of_mem_take h))]
        · have hs : q3.a.safe = (framesF F).length := by
            rcases HQ4.out.2.2.1 with h | ⟨_, h⟩
            · exact h
            · exact absurd h hfull
          obtain ⟨M, hM, h⟩ := crash_told (keep := q3.fk) (t := ftB q3.ft) HM.out (fun e he => HN.out e (List.mem_of_mem_take he)) HQ4.out.2.1 hs
          rw [List.length_take] at hM
          rw [List.take_take, Nat.min_eq_left (by omega)] at h
          exact ⟨M, by omega, fun _ h => absurd h hfull, h⟩
      obtain ⟨E, hE⟩ : ∃ E, E = F ++ G.take M := ⟨_, rfl⟩
      rw [← hE] at htell
      have HEM := Lib.hid (show ∀ e ∈ E, e.may from fun e he => by
        rw [hE] at he
        rcases List.mem_append.1 he with h | h
        · exact HM.out e h
        · exact HN.out e (List.mem_of_mem_take h))
      have HEL := Lib.hid (show E.length = F.length + M from by rw [hE, List.length_append, List.length_take]; omega)
      have HET := Lib.hid (show (F ++ G).take E.length = E from by rw [HEL.out, List.take_length_add_append, hE])
      have hE1 : F.length ≤ E.length := by have := HEL.out; omega
      have hE2 : E.length ≤ F.length + G.length := by have := HEL.out; omega
      have HCL := crash_len (a := q3.a) (keep := q3.fk) (t := ftB q3.ft) HQ4.out.2.2.2.2.1
      obtain ⟨q4, hq4⟩ : ∃ x : Pt, x = { q3 with a := q3.a.crash q3.fk (ftB q3.ft), fd := 0, fk := 0, ft := 0, done := 0 } := ⟨_, rfl⟩
      rw [← hq4] at T9
      have W10 := Lib.hid (entries_tell (es := E) (T9.out.get (i := 0) rfl) (by rw [hq4]; show 0 ≤ q3.a.base; rw [HQ4.out.1]; decide) (by rw [hq4]; show q3.a.base ≤ _; rw [HQ4.out.1]; decide) (by rw [hq4]; show (q3.a.crash q3.fk (ftB q3.ft)).l.length ≤ _; have := HQ4.out.2.2.2.2.2; omega) (by rw [hq4]; show (q3.a.crash q3.fk (ftB q3.ft)).safe ≤ (q3.a.crash q3.fk (ftB q3.ft)).l.length; omega) (by rw [hq4]; exact htell))
      have HG := Lib.hid (show true = true → (0 : Int) = 0 → E.length = F.length + G.length from fun h1 h2 => by
        have h3 := HG.out (by simpa using h1) (by simpa using h2)
        have h4 := hMG h3.1 h3.2
        rw [HEL.out, h4])
      clear t9 T8 htell hM hMG HCL hE hK HQ4 hq4
      go_wp2_with fail
      refine W10.out.mono ?_
      rintro e w10 ⟨vs, A10, A11, c10, c11, hvs, rfl, t10⟩
      have T10 := Lib.hid (T9.out.join t10)
      have HVS := Lib.hid hvs
      clear W10 hvs t10 T9
      go_wp2_with (at_builtin; refine Stop.of ?_)
      obtain ⟨w11, hw11⟩ : ∃ x, x = w10.alloc (.cells #[] 25) := ⟨_, rfl⟩
      have T11 := Lib.hid (show Turn (Item.all []) w (Item.all (lg gl g gp false q4 :: Item.rowT 25 6 (.slice (some ⟨w10.heap.size, 0, none⟩) 0 0) 0 [] :: Item.rowT 25 6 (.slice A4 F.length c4) F.length (toldCells ts) :: Item.rowT 25 6 (.slice A5 G.length c5) G.length (toldCells us) ::
        Item.rowT 25 6 (.slice A10 E.length c10) E.length (toldCells vs) :: Item.rowT 3 1 (.slice A11 E.length c11) E.length (ivs (endsI q4.a.base E)) :: toldRows vs)) w11 from by rw [hw11]; exact T10.out.lit (n := 0) rfl rfl (by decide))
      rw [← hw11]
      clear hw11 T10
      refine ⟨wpList_append_any _ rfl rfl 0 Try.underlying54 Try.info25 rfl (by decide) (by decide) rfl (T11.out.get (i := 1) rfl) rfl (told_src (T11.out.get (i := 2) rfl)) (by omega) (Nat.zero_le _) ?_⟩
      intro v12 w12 ho hg hf
      rw [Nat.zero_add, List.nil_append] at ho
      have T12 := Lib.hid (T11.out.step (i := 1) rfl (Turn.rowT (v := .slice (some ⟨w10.heap.size, 0, none⟩) 0 0) (n := 0) (xs := []) ho hg hf))
      obtain ⟨A12, c12, rfl, _, _⟩ := own_slice ho
      clear ho hg hf T11
      go_wp2_with (at_builtin; refine Stop.of ?_)
      refine ⟨wpList_append_any _ rfl rfl 0 Try.underlying54 Try.info25 rfl (by decide) (by decide) rfl (T12.out.get (i := 1) rfl) rfl (told_src (T12.out.get (i := 3) rfl)) (by omega) (Nat.zero_le _) ?_⟩
      intro v13 w13 ho hg hf
      rw [← toldCells_append] at ho
      have T13 := Lib.hid (T12.out.step (i := 1) rfl (Turn.rowT (v := .slice A12 F.length c12) (n := F.length) (xs := toldCells ts) ho hg hf))
      obtain ⟨NT, hNT⟩ : ∃ n, n = F.length + G.length := ⟨_, rfl⟩
      rw [← hNT] at T13 ho hE2
      obtain ⟨A13, c13, rfl, hc13, _⟩ := own_slice ho
      have HNT := Lib.hid hNT
      have hNTb : NT ≤ 4194304 := by omega
      have SA := Lib.hid (sl_ents T13.out.p (List.mem_cons_of_mem _ (List.mem_cons_of_mem _ (List.mem_cons_of_mem _ (List.mem_cons_of_mem _ (List.mem_cons_self ..))))) (fun i hi => List.mem_cons_of_mem _ (List.mem_cons_of_mem _ (List.mem_cons_of_mem _ (List.mem_cons_of_mem _ (List.mem_cons_of_mem _ (List.mem_cons_of_mem _ hi)))))) HVS.out HEM.out)
      have SB := Lib.hid (show kEn.Sl w13 w13.heap.size A13 E from by
        have h1 := T13.out.get (i := 1) rfl
        have h2 : NT = (F ++ G).length := by rw [hNT, List.length_append]
        rw [h2] at h1
        have h3 := sl_fit (B := w.heap.size) T13.out.k.size h1 (by rw [List.map_append, HTS.out, HUS.out]) (fun t ht => by
          rcases List.mem_append.1 ht with ht | ht
          · exact told_go HVW.out T13.out.free t ht
          · exact told_go HUW.out T13.out.free t ht)
        rw [← HET.out]
        exact sl_take h3)
      have HBW := Lib.hid T13.out.free
      have hEc : (E.length : Int) ≤ (c13 : Int) := by omega
      have hE1i : ¬ (E.length : Int) < (F.length : Int) := by omega
      have hE2i : (E.length : Int) ≤ (NT : Int) := by omega
      have hEb : E.length ≤ 4194304 := by omega
      clear ho hg hf T12 T13 hNT HVS
      go_wp2_with fail
      refine (Alike_true SA.out SB.out (by omega)).mono ?_
      rintro e w14 ⟨rfl, hb⟩
      have HBF := Lib.hid (HBI.out.trans ((HBW.out.trans (hb.mono HBW.out.size)).mono HBI.out.size))
      clear hb SA SB HBW
      have hEq : (E.length : Int) = (NT : Int) := by have h1 := HG.out (by simp) (by simp); have h2 := HNT.out; omega
      go_wp2
      go_ret
      exact ⟨rfl, HBF.out⟩
    · have HQ4 := Lib.hid (show q3.a.base = 0 ∧ q3.a.l = framesF F ++ framesF (G.take K) ∧ (q3.a.safe = (framesF F).length ∨ K = G.length ∧ q3.a.safe = q3.a.l.length) ∧ q3.ft = ft ∧ q3.a.safe ≤ q3.a.l.length ∧ q3.a.l.length ≤ 8796093022208 from by
        rw [show ({ q with fd := fd, fk := fk, ft := ft, done := 0 } : Pt).a.l = framesF F from HQ.out.2.1] at ql
        rw [show ({ q with fd := fd, fk := fk, ft := ft, done := 0 } : Pt).a.safe = (framesF F).length from HQ.out.2.2] at qs
        rw [show ({ q with fd := fd, fk := fk, ft := ft, done := 0 } : Pt).a.base = 0 from HQ.out.1] at qb
        have h1 := framesF_len (es := G.take K) (fun e he => HN.out e (List.mem_of_mem_take he))
        have h2 : (G.take K).length ≤ G.length := by rw [List.length_take]; omega
        have h3 := congrArg List.length ql
        rw [List.length_append] at h3
        refine ⟨qb, ql, qs, qt, ?_, by omega⟩
        rcases qs with h | ⟨_, h⟩ <;> omega)
      have HG := Lib.hid qg
      clear qb qk qt ql qs qg t T7
      go_wp2_with fail
      refine (strike_lg T8.out HQ4.out.2.2.2.2.1 (by have := HQ4.out.2.2.2.2.2; omega) (by rw [HQ4.out.2.2.2.1]; exact HFB.out.1) (by rw [HQ4.out.2.2.2.1]; exact HFB.out.2)).mono ?_
      rintro e w9 ⟨rfl, t9⟩
      have T9 := Lib.hid t9
      obtain ⟨M, hM, hMG, htell⟩ : ∃ M, M ≤ G.length ∧ (K = G.length → q3.a.safe = q3.a.l.length → M = G.length) ∧ tellF (q3.a.crash q3.fk (ftB q3.ft)).l = endsF 0 (F ++ G.take M) := by
        by_cases hfull : q3.a.safe = q3.a.l.length
        · refine ⟨K, hK, fun h _ => h, ?_⟩
          rw [crash_full hfull, HQ4.out.2.1, ← framesF_append, tellF_frames (fun e he => by
            rcases List.mem_append.1 he with h | h
            · exact HM.out e h
            · exact HN.out e (List.mem_of_mem_take h))]
        · have hs : q3.a.safe = (framesF F).length := by
            rcases HQ4.out.2.2.1 with h | ⟨_, h⟩
            · exact h
            · exact absurd h hfull
          obtain ⟨M, hM, h⟩ := crash_told (keep := q3.fk) (t := ftB q3.ft) HM.out (fun e he => HN.out e (List.mem_of_mem_take he)) HQ4.out.2.1 hs
          rw [List.length_take] at hM
          rw [List.take_take, Nat.min_eq_left (by omega)] at h
          exact ⟨M, by omega, fun _ h => absurd h hfull, h⟩
      obtain ⟨E, hE⟩ : ∃ E, E = F ++ G.take M := ⟨_, rfl⟩
      rw [← hE] at htell
      have HEM := Lib.hid (show ∀ e ∈ E, e.may from fun e he => by
        rw [hE] at he
        rcases List.mem_append.1 he with h | h
        · exact HM.out e h
        · exact HN.out e (List.mem_of_mem_take h))
      have HEL := Lib.hid (show E.length = F.length + M from by rw [hE, List.length_append, List.length_take]; omega)
      have HET := Lib.hid (show (F ++ G).take E.length = E from by rw [HEL.out, List.take_length_add_append, hE])
      have hE1 : F.length ≤ E.length := by have := HEL.out; omega
      have hE2 : E.length ≤ F.length + G.length := by have := HEL.out; omega
      have HCL := crash_len (a := q3.a) (keep := q3.fk) (t := ftB q3.ft) HQ4.out.2.2.2.2.1
      obtain ⟨q4, hq4⟩ : ∃ x : Pt, x = { q3 with a := q3.a.crash q3.fk (ftB q3.ft), fd := 0, fk := 0, ft := 0, done := 0 } := ⟨_, rfl⟩
      rw [← hq4] at T9
      have W10 := Lib.hid (entries_tell (es := E) (T9.out.get (i := 0) rfl) (by rw [hq4]; show 0 ≤ q3.a.base; rw [HQ4.out.1]; decide) (by rw [hq4]; show q3.a.base ≤ _; rw [HQ4.out.1]; decide) (by rw [hq4]; show (q3.a.crash q3.fk (ftB q3.ft)).l.length ≤ _; have := HQ4.out.2.2.2.2.2; omega) (by rw [hq4]; show (q3.a.crash q3.fk (ftB q3.ft)).safe ≤ (q3.a.crash q3.fk (ftB q3.ft)).l.length; omega) (by rw [hq4]; exact htell))
      have HG := Lib.hid (show true = true → (80 : Int) = 0 → E.length = F.length + G.length from fun h1 h2 => by
        have h3 := HG.out (by simpa using h1) (by simpa using h2)
        have h4 := hMG h3.1 h3.2
        rw [HEL.out, h4])
      clear t9 T8 htell hM hMG HCL hE hK HQ4 hq4
      go_wp2_with fail
      refine W10.out.mono ?_
      rintro e w10 ⟨vs, A10, A11, c10, c11, hvs, rfl, t10⟩
      have T10 := Lib.hid (T9.out.join t10)
      have HVS := Lib.hid hvs
      clear W10 hvs t10 T9
      go_wp2_with (at_builtin; refine Stop.of ?_)
      obtain ⟨w11, hw11⟩ : ∃ x, x = w10.alloc (.cells #[] 25) := ⟨_, rfl⟩
      have T11 := Lib.hid (show Turn (Item.all []) w (Item.all (lg gl g gp false q4 :: Item.rowT 25 6 (.slice (some ⟨w10.heap.size, 0, none⟩) 0 0) 0 [] :: Item.rowT 25 6 (.slice A4 F.length c4) F.length (toldCells ts) :: Item.rowT 25 6 (.slice A5 G.length c5) G.length (toldCells us) ::
        Item.rowT 25 6 (.slice A10 E.length c10) E.length (toldCells vs) :: Item.rowT 3 1 (.slice A11 E.length c11) E.length (ivs (endsI q4.a.base E)) :: toldRows vs)) w11 from by rw [hw11]; exact T10.out.lit (n := 0) rfl rfl (by decide))
      rw [← hw11]
      clear hw11 T10
      refine ⟨wpList_append_any _ rfl rfl 0 Try.underlying54 Try.info25 rfl (by decide) (by decide) rfl (T11.out.get (i := 1) rfl) rfl (told_src (T11.out.get (i := 2) rfl)) (by omega) (Nat.zero_le _) ?_⟩
      intro v12 w12 ho hg hf
      rw [Nat.zero_add, List.nil_append] at ho
      have T12 := Lib.hid (T11.out.step (i := 1) rfl (Turn.rowT (v := .slice (some ⟨w10.heap.size, 0, none⟩) 0 0) (n := 0) (xs := []) ho hg hf))
      obtain ⟨A12, c12, rfl, _, _⟩ := own_slice ho
      clear ho hg hf T11
      go_wp2_with (at_builtin; refine Stop.of ?_)
      refine ⟨wpList_append_any _ rfl rfl 0 Try.underlying54 Try.info25 rfl (by decide) (by decide) rfl (T12.out.get (i := 1) rfl) rfl (told_src (T12.out.get (i := 3) rfl)) (by omega) (Nat.zero_le _) ?_⟩
      intro v13 w13 ho hg hf
      rw [← toldCells_append] at ho
      have T13 := Lib.hid (T12.out.step (i := 1) rfl (Turn.rowT (v := .slice A12 F.length c12) (n := F.length) (xs := toldCells ts) ho hg hf))
      obtain ⟨NT, hNT⟩ : ∃ n, n = F.length + G.length := ⟨_, rfl⟩
      rw [← hNT] at T13 ho hE2
      obtain ⟨A13, c13, rfl, hc13, _⟩ := own_slice ho
      have HNT := Lib.hid hNT
      have hNTb : NT ≤ 4194304 := by omega
      have SA := Lib.hid (sl_ents T13.out.p (List.mem_cons_of_mem _ (List.mem_cons_of_mem _ (List.mem_cons_of_mem _ (List.mem_cons_of_mem _ (List.mem_cons_self ..))))) (fun i hi => List.mem_cons_of_mem _ (List.mem_cons_of_mem _ (List.mem_cons_of_mem _ (List.mem_cons_of_mem _ (List.mem_cons_of_mem _ (List.mem_cons_of_mem _ hi)))))) HVS.out HEM.out)
      have SB := Lib.hid (show kEn.Sl w13 w13.heap.size A13 E from by
        have h1 := T13.out.get (i := 1) rfl
        have h2 : NT = (F ++ G).length := by rw [hNT, List.length_append]
        rw [h2] at h1
        have h3 := sl_fit (B := w.heap.size) T13.out.k.size h1 (by rw [List.map_append, HTS.out, HUS.out]) (fun t ht => by
          rcases List.mem_append.1 ht with ht | ht
          · exact told_go HVW.out T13.out.free t ht
          · exact told_go HUW.out T13.out.free t ht)
        rw [← HET.out]
        exact sl_take h3)
      have HBW := Lib.hid T13.out.free
      have hEc : (E.length : Int) ≤ (c13 : Int) := by omega
      have hE1i : ¬ (E.length : Int) < (F.length : Int) := by omega
      have hE2i : (E.length : Int) ≤ (NT : Int) := by omega
      have hEb : E.length ≤ 4194304 := by omega
      clear ho hg hf T12 T13 hNT HVS
      go_wp2_with fail
      refine (Alike_true SA.out SB.out (by omega)).mono ?_
      rintro e w14 ⟨rfl, hb⟩
      have HBF := Lib.hid (HBI.out.trans ((HBW.out.trans (hb.mono HBW.out.size)).mono HBI.out.size))
      clear hb SA SB HBW
      go_wp2
      go_ret
      exact ⟨rfl, HBF.out⟩
  | false =>
    go_wp2_with fail
    refine (write_struck (c := c5) (T7.out.get (i := 0) rfl) (Int.le_refl 0) (show (0 : Int) ≤ _ by decide) SV.out HN.out (show q.a.l.length + 5009 * G.length ≤ _ by rw [HQ.out.2.1]; omega)).mono ?_
    rintro e w8 ⟨m, K, q3, hm, rfl, hK, qb, qk, qt, ql, qs, qg, t⟩
    have T8 := Lib.hid (T7.out.step (i := 0) rfl t)
    rcases hm with rfl | rfl
    · have HQ4 := Lib.hid (show q3.a.base = 0 ∧ q3.a.l = framesF F ++ framesF (G.take K) ∧ (q3.a.safe = (framesF F).length ∨ K = G.length ∧ q3.a.safe = q3.a.l.length) ∧ q3.ft = ft ∧ q3.a.safe ≤ q3.a.l.length ∧ q3.a.l.length ≤ 8796093022208 from by
        rw [show ({ q with fd := fd, fk := fk, ft := ft, done := 0 } : Pt).a.l = framesF F from HQ.out.2.1] at ql
        rw [show ({ q with fd := fd, fk := fk, ft := ft, done := 0 } : Pt).a.safe = (framesF F).length from HQ.out.2.2] at qs
        rw [show ({ q with fd := fd, fk := fk, ft := ft, done := 0 } : Pt).a.base = 0 from HQ.out.1] at qb
        have h1 := framesF_len (es := G.take K) (fun e he => HN.out e (List.mem_of_mem_take he))
        have h2 : (G.take K).length ≤ G.length := by rw [List.length_take]; omega
        have h3 := congrArg List.length ql
        rw [List.length_append] at h3
        refine ⟨qb, ql, qs, qt, ?_, by omega⟩
        rcases qs with h | ⟨_, h⟩ <;> omega)
      have HG := Lib.hid qg
      clear qb qk qt ql qs qg t T7
      go_wp2_with fail
      refine (strike_lg T8.out HQ4.out.2.2.2.2.1 (by have := HQ4.out.2.2.2.2.2; omega) (by rw [HQ4.out.2.2.2.1]; exact HFB.out.1) (by rw [HQ4.out.2.2.2.1]; exact HFB.out.2)).mono ?_
      rintro e w9 ⟨rfl, t9⟩
      have T9 := Lib.hid t9
      obtain ⟨M, hM, hMG, htell⟩ : ∃ M, M ≤ G.length ∧ (K = G.length → q3.a.safe = q3.a.l.length → M = G.length) ∧ tellF (q3.a.crash q3.fk (ftB q3.ft)).l = endsF 0 (F ++ G.take M) := by
        by_cases hfull : q3.a.safe = q3.a.l.length
        · refine ⟨K, hK, fun h _ => h, ?_⟩
          rw [crash_full hfull, HQ4.out.2.1, ← framesF_append, tellF_frames (fun e he => by
            rcases List.mem_append.1 he with h | h
            · exact HM.out e h
            · exact HN.out e (List.mem_of_mem_take h))]
        · have hs : q3.a.safe = (framesF F).length := by
            rcases HQ4.out.2.2.1 with h | ⟨_, h⟩
            · exact h
            · exact absurd h hfull
          obtain ⟨M, hM, h⟩ := crash_told (keep := q3.fk) (t := ftB q3.ft) HM.out (fun e he => HN.out e (List.mem_of_mem_take he)) HQ4.out.2.1 hs
          rw [List.length_take] at hM
          rw [List.take_take, Nat.min_eq_left (by omega)] at h
          exact ⟨M, by omega, fun _ h => absurd h hfull, h⟩
      obtain ⟨E, hE⟩ : ∃ E, E = F ++ G.take M := ⟨_, rfl⟩
      rw [← hE] at htell
      have HEM := Lib.hid (show ∀ e ∈ E, e.may from fun e he => by
        rw [hE] at he
        rcases List.mem_append.1 he with h | h
        · exact HM.out e h
        · exact HN.out e (List.mem_of_mem_take h))
      have HEL := Lib.hid (show E.length = F.length + M from by rw [hE, List.length_append, List.length_take]; omega)
      have HET := Lib.hid (show (F ++ G).take E.length = E from by rw [HEL.out, List.take_length_add_append, hE])
      have hE1 : F.length ≤ E.length := by have := HEL.out; omega
      have hE2 : E.length ≤ F.length + G.length := by have := HEL.out; omega
      have HCL := crash_len (a := q3.a) (keep := q3.fk) (t := ftB q3.ft) HQ4.out.2.2.2.2.1
      obtain ⟨q4, hq4⟩ : ∃ x : Pt, x = { q3 with a := q3.a.crash q3.fk (ftB q3.ft), fd := 0, fk := 0, ft := 0, done := 0 } := ⟨_, rfl⟩
      rw [← hq4] at T9
      have W10 := Lib.hid (entries_tell (es := E) (T9.out.get (i := 0) rfl) (by rw [hq4]; show 0 ≤ q3.a.base; rw [HQ4.out.1]; decide) (by rw [hq4]; show q3.a.base ≤ _; rw [HQ4.out.1]; decide) (by rw [hq4]; show (q3.a.crash q3.fk (ftB q3.ft)).l.length ≤ _; have := HQ4.out.2.2.2.2.2; omega) (by rw [hq4]; show (q3.a.crash q3.fk (ftB q3.ft)).safe ≤ (q3.a.crash q3.fk (ftB q3.ft)).l.length; omega) (by rw [hq4]; exact htell))
      have HG := Lib.hid (show false = true → (0 : Int) = 0 → E.length = F.length + G.length from fun h1 h2 => by
        have h3 := HG.out (by simpa using h1) (by simpa using h2)
        have h4 := hMG h3.1 h3.2
        rw [HEL.out, h4])
      clear t9 T8 htell hM hMG HCL hE hK HQ4 hq4
      go_wp2_with fail
      refine W10.out.mono ?_
      rintro e w10 ⟨vs, A10, A11, c10, c11, hvs, rfl, t10⟩
      have T10 := Lib.hid (T9.out.join t10)
      have HVS := Lib.hid hvs
      clear W10 hvs t10 T9
      go_wp2_with (at_builtin; refine Stop.of ?_)
      obtain ⟨w11, hw11⟩ : ∃ x, x = w10.alloc (.cells #[] 25) := ⟨_, rfl⟩
      have T11 := Lib.hid (show Turn (Item.all []) w (Item.all (lg gl g gp false q4 :: Item.rowT 25 6 (.slice (some ⟨w10.heap.size, 0, none⟩) 0 0) 0 [] :: Item.rowT 25 6 (.slice A4 F.length c4) F.length (toldCells ts) :: Item.rowT 25 6 (.slice A5 G.length c5) G.length (toldCells us) ::
        Item.rowT 25 6 (.slice A10 E.length c10) E.length (toldCells vs) :: Item.rowT 3 1 (.slice A11 E.length c11) E.length (ivs (endsI q4.a.base E)) :: toldRows vs)) w11 from by rw [hw11]; exact T10.out.lit (n := 0) rfl rfl (by decide))
      rw [← hw11]
      clear hw11 T10
      refine ⟨wpList_append_any _ rfl rfl 0 Try.underlying54 Try.info25 rfl (by decide) (by decide) rfl (T11.out.get (i := 1) rfl) rfl (told_src (T11.out.get (i := 2) rfl)) (by omega) (Nat.zero_le _) ?_⟩
      intro v12 w12 ho hg hf
      rw [Nat.zero_add, List.nil_append] at ho
      have T12 := Lib.hid (T11.out.step (i := 1) rfl (Turn.rowT (v := .slice (some ⟨w10.heap.size, 0, none⟩) 0 0) (n := 0) (xs := []) ho hg hf))
      obtain ⟨A12, c12, rfl, _, _⟩ := own_slice ho
      clear ho hg hf T11
      go_wp2_with (at_builtin; refine Stop.of ?_)
      refine ⟨wpList_append_any _ rfl rfl 0 Try.underlying54 Try.info25 rfl (by decide) (by decide) rfl (T12.out.get (i := 1) rfl) rfl (told_src (T12.out.get (i := 3) rfl)) (by omega) (Nat.zero_le _) ?_⟩
      intro v13 w13 ho hg hf
      rw [← toldCells_append] at ho
      have T13 := Lib.hid (T12.out.step (i := 1) rfl (Turn.rowT (v := .slice A12 F.length c12) (n := F.length) (xs := toldCells ts) ho hg hf))
      obtain ⟨NT, hNT⟩ : ∃ n, n = F.length + G.length := ⟨_, rfl⟩
      rw [← hNT] at T13 ho hE2
      obtain ⟨A13, c13, rfl, hc13, _⟩ := own_slice ho
      have HNT := Lib.hid hNT
      have hNTb : NT ≤ 4194304 := by omega
      have SA := Lib.hid (sl_ents T13.out.p (List.mem_cons_of_mem _ (List.mem_cons_of_mem _ (List.mem_cons_of_mem _ (List.mem_cons_of_mem _ (List.mem_cons_self ..))))) (fun i hi => List.mem_cons_of_mem _ (List.mem_cons_of_mem _ (List.mem_cons_of_mem _ (List.mem_cons_of_mem _ (List.mem_cons_of_mem _ (List.mem_cons_of_mem _ hi)))))) HVS.out HEM.out)
      have SB := Lib.hid (show kEn.Sl w13 w13.heap.size A13 E from by
        have h1 := T13.out.get (i := 1) rfl
        have h2 : NT = (F ++ G).length := by rw [hNT, List.length_append]
        rw [h2] at h1
        have h3 := sl_fit (B := w.heap.size) T13.out.k.size h1 (by rw [List.map_append, HTS.out, HUS.out]) (fun t ht => by
          rcases List.mem_append.1 ht with ht | ht
          · exact told_go HVW.out T13.out.free t ht
          · exact told_go HUW.out T13.out.free t ht)
        rw [← HET.out]
        exact sl_take h3)
      have HBW := Lib.hid T13.out.free
      have hEc : (E.length : Int) ≤ (c13 : Int) := by omega
      have hE1i : ¬ (E.length : Int) < (F.length : Int) := by omega
      have hE2i : (E.length : Int) ≤ (NT : Int) := by omega
      have hEb : E.length ≤ 4194304 := by omega
      clear ho hg hf T12 T13 hNT HVS
      go_wp2_with fail
      refine (Alike_true SA.out SB.out (by omega)).mono ?_
      rintro e w14 ⟨rfl, hb⟩
      have HBF := Lib.hid (HBI.out.trans ((HBW.out.trans (hb.mono HBW.out.size)).mono HBI.out.size))
      clear hb SA SB HBW
      go_wp2
      go_ret
      exact ⟨rfl, HBF.out⟩
    · have HQ4 := Lib.hid (show q3.a.base = 0 ∧ q3.a.l = framesF F ++ framesF (G.take K) ∧ (q3.a.safe = (framesF F).length ∨ K = G.length ∧ q3.a.safe = q3.a.l.length) ∧ q3.ft = ft ∧ q3.a.safe ≤ q3.a.l.length ∧ q3.a.l.length ≤ 8796093022208 from by
        rw [show ({ q with fd := fd, fk := fk, ft := ft, done := 0 } : Pt).a.l = framesF F from HQ.out.2.1] at ql
        rw [show ({ q with fd := fd, fk := fk, ft := ft, done := 0 } : Pt).a.safe = (framesF F).length from HQ.out.2.2] at qs
        rw [show ({ q with fd := fd, fk := fk, ft := ft, done := 0 } : Pt).a.base = 0 from HQ.out.1] at qb
        have h1 := framesF_len (es := G.take K) (fun e he => HN.out e (List.mem_of_mem_take he))
        have h2 : (G.take K).length ≤ G.length := by rw [List.length_take]; omega
        have h3 := congrArg List.length ql
        rw [List.length_append] at h3
        refine ⟨qb, ql, qs, qt, ?_, by omega⟩
        rcases qs with h | ⟨_, h⟩ <;> omega)
      have HG := Lib.hid qg
      clear qb qk qt ql qs qg t T7
      go_wp2_with fail
      refine (strike_lg T8.out HQ4.out.2.2.2.2.1 (by have := HQ4.out.2.2.2.2.2; omega) (by rw [HQ4.out.2.2.2.1]; exact HFB.out.1) (by rw [HQ4.out.2.2.2.1]; exact HFB.out.2)).mono ?_
      rintro e w9 ⟨rfl, t9⟩
      have T9 := Lib.hid t9
      obtain ⟨M, hM, hMG, htell⟩ : ∃ M, M ≤ G.length ∧ (K = G.length → q3.a.safe = q3.a.l.length → M = G.length) ∧ tellF (q3.a.crash q3.fk (ftB q3.ft)).l = endsF 0 (F ++ G.take M) := by
        by_cases hfull : q3.a.safe = q3.a.l.length
        · refine ⟨K, hK, fun h _ => h, ?_⟩
          rw [crash_full hfull, HQ4.out.2.1, ← framesF_append, tellF_frames (fun e he => by
            rcases List.mem_append.1 he with h | h
            · exact HM.out e h
            · exact HN.out e (List.mem_of_mem_take h))]
        · have hs : q3.a.safe = (framesF F).length := by
            rcases HQ4.out.2.2.1 with h | ⟨_, h⟩
            · exact h
            · exact absurd h hfull
          obtain ⟨M, hM, h⟩ := crash_told (keep := q3.fk) (t := ftB q3.ft) HM.out (fun e he => HN.out e (List.mem_of_mem_take he)) HQ4.out.2.1 hs
          rw [List.length_take] at hM
          rw [List.take_take, Nat.min_eq_left (by omega)] at h
          exact ⟨M, by omega, fun _ h => absurd h hfull, h⟩
      obtain ⟨E, hE⟩ : ∃ E, E = F ++ G.take M := ⟨_, rfl⟩
      rw [← hE] at htell
      have HEM := Lib.hid (show ∀ e ∈ E, e.may from fun e he => by
        rw [hE] at he
        rcases List.mem_append.1 he with h | h
        · exact HM.out e h
        · exact HN.out e (List.mem_of_mem_take h))
      have HEL := Lib.hid (show E.length = F.length + M from by rw [hE, List.length_append, List.length_take]; omega)
      have HET := Lib.hid (show (F ++ G).take E.length = E from by rw [HEL.out, List.take_length_add_append, hE])
      have hE1 : F.length ≤ E.length := by have := HEL.out; omega
      have hE2 : E.length ≤ F.length + G.length := by have := HEL.out; omega
      have HCL := crash_len (a := q3.a) (keep := q3.fk) (t := ftB q3.ft) HQ4.out.2.2.2.2.1
      obtain ⟨q4, hq4⟩ : ∃ x : Pt, x = { q3 with a := q3.a.crash q3.fk (ftB q3.ft), fd := 0, fk := 0, ft := 0, done := 0 } := ⟨_, rfl⟩
      rw [← hq4] at T9
      have W10 := Lib.hid (entries_tell (es := E) (T9.out.get (i := 0) rfl) (by rw [hq4]; show 0 ≤ q3.a.base; rw [HQ4.out.1]; decide) (by rw [hq4]; show q3.a.base ≤ _; rw [HQ4.out.1]; decide) (by rw [hq4]; show (q3.a.crash q3.fk (ftB q3.ft)).l.length ≤ _; have := HQ4.out.2.2.2.2.2; omega) (by rw [hq4]; show (q3.a.crash q3.fk (ftB q3.ft)).safe ≤ (q3.a.crash q3.fk (ftB q3.ft)).l.length; omega) (by rw [hq4]; exact htell))
      have HG := Lib.hid (show false = true → (80 : Int) = 0 → E.length = F.length + G.length from fun h1 h2 => by
        have h3 := HG.out (by simpa using h1) (by simpa using h2)
        have h4 := hMG h3.1 h3.2
        rw [HEL.out, h4])
      clear t9 T8 htell hM hMG HCL hE hK HQ4 hq4
      go_wp2_with fail
      refine W10.out.mono ?_
      rintro e w10 ⟨vs, A10, A11, c10, c11, hvs, rfl, t10⟩
      have T10 := Lib.hid (T9.out.join t10)
      have HVS := Lib.hid hvs
      clear W10 hvs t10 T9
      go_wp2_with (at_builtin; refine Stop.of ?_)
      obtain ⟨w11, hw11⟩ : ∃ x, x = w10.alloc (.cells #[] 25) := ⟨_, rfl⟩
      have T11 := Lib.hid (show Turn (Item.all []) w (Item.all (lg gl g gp false q4 :: Item.rowT 25 6 (.slice (some ⟨w10.heap.size, 0, none⟩) 0 0) 0 [] :: Item.rowT 25 6 (.slice A4 F.length c4) F.length (toldCells ts) :: Item.rowT 25 6 (.slice A5 G.length c5) G.length (toldCells us) ::
        Item.rowT 25 6 (.slice A10 E.length c10) E.length (toldCells vs) :: Item.rowT 3 1 (.slice A11 E.length c11) E.length (ivs (endsI q4.a.base E)) :: toldRows vs)) w11 from by rw [hw11]; exact T10.out.lit (n := 0) rfl rfl (by decide))
      rw [← hw11]
      clear hw11 T10
      refine ⟨wpList_append_any _ rfl rfl 0 Try.underlying54 Try.info25 rfl (by decide) (by decide) rfl (T11.out.get (i := 1) rfl) rfl (told_src (T11.out.get (i := 2) rfl)) (by omega) (Nat.zero_le _) ?_⟩
      intro v12 w12 ho hg hf
      rw [Nat.zero_add, List.nil_append] at ho
      have T12 := Lib.hid (T11.out.step (i := 1) rfl (Turn.rowT (v := .slice (some ⟨w10.heap.size, 0, none⟩) 0 0) (n := 0) (xs := []) ho hg hf))
      obtain ⟨A12, c12, rfl, _, _⟩ := own_slice ho
      clear ho hg hf T11
      go_wp2_with (at_builtin; refine Stop.of ?_)
      refine ⟨wpList_append_any _ rfl rfl 0 Try.underlying54 Try.info25 rfl (by decide) (by decide) rfl (T12.out.get (i := 1) rfl) rfl (told_src (T12.out.get (i := 3) rfl)) (by omega) (Nat.zero_le _) ?_⟩
      intro v13 w13 ho hg hf
      rw [← toldCells_append] at ho
      have T13 := Lib.hid (T12.out.step (i := 1) rfl (Turn.rowT (v := .slice A12 F.length c12) (n := F.length) (xs := toldCells ts) ho hg hf))
      obtain ⟨NT, hNT⟩ : ∃ n, n = F.length + G.length := ⟨_, rfl⟩
      rw [← hNT] at T13 ho hE2
      obtain ⟨A13, c13, rfl, hc13, _⟩ := own_slice ho
      have HNT := Lib.hid hNT
      have hNTb : NT ≤ 4194304 := by omega
      have SA := Lib.hid (sl_ents T13.out.p (List.mem_cons_of_mem _ (List.mem_cons_of_mem _ (List.mem_cons_of_mem _ (List.mem_cons_of_mem _ (List.mem_cons_self ..))))) (fun i hi => List.mem_cons_of_mem _ (List.mem_cons_of_mem _ (List.mem_cons_of_mem _ (List.mem_cons_of_mem _ (List.mem_cons_of_mem _ (List.mem_cons_of_mem _ hi)))))) HVS.out HEM.out)
      have SB := Lib.hid (show kEn.Sl w13 w13.heap.size A13 E from by
        have h1 := T13.out.get (i := 1) rfl
        have h2 : NT = (F ++ G).length := by rw [hNT, List.length_append]
        rw [h2] at h1
        have h3 := sl_fit (B := w.heap.size) T13.out.k.size h1 (by rw [List.map_append, HTS.out, HUS.out]) (fun t ht => by
          rcases List.mem_append.1 ht with ht | ht
          · exact told_go HVW.out T13.out.free t ht
          · exact told_go HUW.out T13.out.free t ht)
        rw [← HET.out]
        exact sl_take h3)
      have HBW := Lib.hid T13.out.free
      have hEc : (E.length : Int) ≤ (c13 : Int) := by omega
      have hE1i : ¬ (E.length : Int) < (F.length : Int) := by omega
      have hE2i : (E.length : Int) ≤ (NT : Int) := by omega
      have hEb : E.length ≤ 4194304 := by omega
      clear ho hg hf T12 T13 hNT HVS
      go_wp2_with fail
      refine (Alike_true SA.out SB.out (by omega)).mono ?_
      rintro e w14 ⟨rfl, hb⟩
      have HBF := Lib.hid (HBI.out.trans ((HBW.out.trans (hb.mono HBW.out.size)).mono HBI.out.size))
      clear hb SA SB HBW
      go_wp2
      go_ret
      exact ⟨rfl, HBF.out⟩
end Go.Proofs.Ytnnladfndmdapaa
