/- Contracts and plain laws that this claim leans on, laid together: Rbd, Img, Rfx, Alk. -/
import Derived.Test.YtmnpchncmbnddaaGreatG08
import Derived.Test.YtmnpchncmbnddaaGreatG20
import Derived.Test.YtmnpchncmbnddaaGreatG11
import Derived.Deep.CutRange
import Derived.Test.YtmnpchncmbnddaaGreatCmtL2
import Derived.Test.YtmnpchncmbnddaaGreatG16
import Derived.Test.YtmnpchncmbnddaaGreatG15
set_option linter.all false
set_option linter.unusedVariables false
set_option linter.unusedSimpArgs false
set_option linter.unnecessarySimpa false
/- Rebuild, by contract. -/
namespace Go.Proofs.YtmnpchncmbnddaaGreat
open Go.RowKit

/-- What stays of a log's area behind a Rebuild: the whole groups. -/
def Pt.keep (p : Pt) (k : Nat) : Pt := if k < p.a.l.length then { p with a := p.a.cut k, done := p.done + 1 } else p
def RbdPost (gl g gp : Nat) (ar : Bool) (p : Pt) (es : List En) (start : Int) (w : World) (e : Ending) (w' : World) : Prop :=
  ∃ (S : PS) (now : Int) (n : Nat), GrpEnd es start S now n ∧
    ((((framesF (es.take n)).length < p.a.l.length → ar = true → p.done < p.fd) ∧ ∃ s : St, e = .returned (.tuple #[.pointer (some ⟨s.gs, 0, none⟩), .int .i64 now, .int .i64 0]) ∧ s.ok n ∧ s.view = S ∧ Turn (lg gl g gp ar p) w (Item.all [lg gl g gp ar (p.keep (framesF (es.take n)).length), s.item]) w') ∨
     ((framesF (es.take n)).length < p.a.l.length ∧ ar = true ∧ p.fd ≤ p.done ∧ e = .returned (.tuple #[.pointer none, .int .i64 0, .int .i64 80]) ∧ Turn (lg gl g gp ar p) w (Item.all [lg gl g gp ar p]) w'))
theorem may_small {e : En} (h : e.may) : e.key.size ≤ 255 ∧ e.value.length ≤ 4096 := by
  obtain ⟨k, s, n, key, v, d⟩ := e
  unfold En.may at h
  simp only at h ⊢
  split at h
  · omega
  · split at h
    · omega
    · split at h
      · obtain ⟨h1, _, _, _, _, h2, _⟩ := h
        omega
      · split at h
        · omega
        · exact h.elim
theorem rowE_cap {w : World} {A : Option Addr} {n c : Nat} {xs : List Value} {e : TypeId} {z : Nat} (h : (Item.rowT e z (.slice A n c) n xs).P w) : n ≤ c := by
  have h' : w.ownsRow 0 e z (.slice A n c) n xs := h
  rcases h'.2 with ⟨h2, h3⟩ | ⟨g, cap, cur, hv1, _, _, h4, _⟩
  · injection h2 with _ h2 _
    omega
  · injection hv1 with _ _ hv1
    omega
set_option maxRecDepth 100000 in
set_option maxHeartbeats 12800000 in
theorem rebuild_any {w : World} {gl g gp : Nat} {ar : Bool} {p : Pt} {es : List En} {z : List UInt8} {start : Int} (h : (lg gl g gp ar p).P w) (hb0 : 0 ≤ p.a.base) (hb1 : p.a.base ≤ 4611686018427387904) (hl : p.a.l.length ≤ 16777216) (hs : p.a.safe ≤ p.a.l.length) (hd0 : 0 ≤ p.done) (hd1 : p.done ≤ 1000000000000000000) (h0 : 0 ≤ start) (h1 : start ≤ 4611686018427387904)
    (hz : p.a.l = framesF es ++ z) (hm : ∀ e ∈ es, e.may) (hT : tellF p.a.l = endsF 0 es) :
    Calls Tryz.prog 39 #[.pointer (some ⟨gl, 0, none⟩), .int .i64 start] w (RbdPost gl g gp ar p es start w) := by
  have HM := Lib.hid hm
  have HFR := Lib.hid (fun (n : Nat) => (show (framesF (es.take n)).length ≤ p.a.l.length from by
    rw [hz, frames_take es n, List.length_append, List.length_append]; omega))
  have HEN := Lib.hid (entries_tell (es := es) h hb0 hb1 (by omega) hs hT)
  have T0 := Lib.hid (Turn.refl h).one
  have hel : es.length ≤ 16777216 := by
    have h2 := framesF_ge es
    have h3 := congrArg List.length hz
    rw [List.length_append] at h3
    omega
  have HP := Lib.hid (show (0 ≤ p.a.base ∧ p.a.base ≤ 4611686018427387904) ∧ p.a.safe ≤ p.a.l.length ∧ 0 ≤ p.done ∧ p.done ≤ 1000000000000000000 from ⟨⟨hb0, hb1⟩, hs, hd0, hd1⟩)
  obtain ⟨N, hN⟩ : ∃ N, N = es.length := ⟨_, rfl⟩
  have HN := Lib.hid hN
  obtain ⟨L, hL⟩ : ∃ L, L = p.a.l.length := ⟨_, rfl⟩
  have HL := Lib.hid hL
  have hLb : L ≤ 16777216 := by omega
  obtain ⟨bs, hbs⟩ : ∃ b, b = p.a.base := ⟨_, rfl⟩
  have HBS := Lib.hid hbs
  have hbs0 : 0 ≤ bs := by omega
  have hbs1 : bs ≤ 4611686018427387904 := by omega
  have d0 : decide (start < 0) = false := decide_eq_false (by omega)
  have d1 : decide (4611686018427387904 < start) = false := decide_eq_false (by omega)
  rw [← hN] at hel
  clear h hb0 hb1 hl hs hd0 hd1 h0 h1 hz hm hT hN hL hbs
  go_enter Tryz.func39, Tryz.ntmps39
  go_wp2_with fail
  refine HEN.out.mono ?_
  rintro e w1 ⟨ts, A9, A10, c9, c10, hts, rfl, t1⟩
  rw [← HN.out] at t1 ⊢
  have T1 := Lib.hid (T0.out.join t1)
  have hNc : N ≤ c9 := rowE_cap (t1.get (i := 0) rfl)
  have HSE := Lib.hid (show kEn.Sl w1 w1.heap.size A9 es from by
    have h := sl_told (t1.get (i := 0) rfl) (by rw [HN.out, ← hts, List.length_map]) (fun i hi => Item.all_get t1.p (List.mem_cons_of_mem _ (List.mem_cons_of_mem _ hi))) (by rw [hts]; exact HM.out)
    rwa [hts] at h)
  have HRD := Lib.hid (rbRead_any (w := w1) (start := start) (c := c9) HSE.out (Nat.le_refl _) (by rw [← HN.out]; exact hel) (by rw [← HN.out]; exact hNc) (fun e he => by
    have := may_small (HM.out e he)
    omega))
  rw [← HN.out] at HRD
  have HTR := Lib.hid (show List.length (Item.rowT 3 1 (.slice A10 N c10) N (ivs (endsI p.a.base es)) :: toldRows ts) = (toldRows ts).length + 1 from rfl)
  clear hts t1 HEN HTR
  go_wp2_with fail
  refine HRD.out.mono ?_
  rintro e w2 ⟨S, now, n, hg, s, rfl, hok, hv, t2⟩
  have hnN : n ≤ N := by have := hg.1.le; rw [← HN.out] at this; exact this
  have HG := Lib.hid (And.intro hg (And.intro hok hv))
  have T2 := Lib.hid (show Turn (lg gl g gp ar p) w (Item.all [lg gl g gp ar p, Item.rowT 3 1 (.slice A10 N c10) N (ivs (endsI p.a.base es)), s.item]) w2 from by
    have t := T1.out.join t2
    refine (t.permR (M := lg gl g gp ar p :: Item.rowT 3 1 (.slice A10 N c10) N (ivs (endsI p.a.base es)) :: s.item :: (Item.rowT 105 6 (.slice A9 N c9) N (toldCells ts) :: toldRows ts)) ?_).sub (List.Sublist.cons_cons _ (List.Sublist.cons_cons _ (List.Sublist.cons_cons _ (List.nil_sublist _))))
    show (lg gl g gp ar p :: Item.rowT 105 6 (.slice A9 N c9) N (toldCells ts) :: Item.rowT 3 1 (.slice A10 N c10) N (ivs (endsI p.a.base es)) :: (toldRows ts ++ [s.item])).Perm _
    refine List.Perm.cons _ ((List.Perm.swap _ _ _).trans (List.Perm.cons _ ?_))
    exact (List.perm_append_comm (l₁ := Item.rowT 105 6 (.slice A9 N c9) N (toldCells ts) :: toldRows ts) (l₂ := [s.item])))
  have HBO := Lib.hid (lBounds_any (w := w2) (d := ⟨g, gp, ar, [p]⟩) 0 (p := p) (T2.out.get (i := 0) rfl) (by simp) rfl HP.out.1.1 HP.out.1.2 (by rw [← HL.out]; omega) HP.out.2.1)
  rw [← HL.out, ← HBS.out] at HBO
  clear hg hok hv t2 T0 T1 HRD HSE
  go_wp2_with fail
  refine HBO.out.mono ?_
  rintro e w3 ⟨rfl, hb3⟩
  have T3 := Lib.hid (T2.out.go hb3)
  obtain ⟨k, hk⟩ : ∃ k, k = (framesF (es.take n)).length := ⟨_, rfl⟩
  have HK := Lib.hid hk
  have hkL : k ≤ L := by rw [hk, HL.out]; exact HFR.out n
  obtain ⟨gS, hgS⟩ : ∃ x, x = s.gs := ⟨_, rfl⟩
  have HGS := Lib.hid hgS
  rw [← hgS]
  clear hb3 HBO T2 hk hgS
  obtain ⟨W, hW⟩ : ∃ x : Int, x = bs + (k : Int) := ⟨_, rfl⟩
  have HWE := Lib.hid hW
  have hW1 : W ≤ bs + (k : Int) := by omega
  have hW2 : bs + (k : Int) ≤ W := by omega
  clear hW
  go_upto_if 43 with fail
  obtain ⟨q, hq⟩ : ∃ q, q = decide (0 < n) := ⟨_, rfl⟩
  have HQ := Lib.hid hq
  rw [← hq]
  clear hq
  go_cut [12] from 44 to 48 (fun u wc => u = .int .i64 W ∧ wc = w3)
  case first =>
    cases q with
    | false =>
      have hn0 : n = 0 := by have := of_decide_eq_false HQ.out.symm; omega
      have hk0 : k = 0 := by rw [HK.out, hn0]; rfl
      have HWB := Lib.hid (show W = bs from by omega)
      clear hn0 hk0 hW1 hW2
      go_wp2_with fail
      go_meet
      exact ⟨by rw [HWB.out], rfl⟩
    | true =>
      have hn0 : 0 < n := of_decide_eq_true HQ.out.symm
      obtain ⟨J, hJ⟩ : ∃ J, J + 1 = n := ⟨n - 1, by omega⟩
      have hJN : J < N := by omega
      have hJ1 : (n : Int) - 1 = (J : Int) := by omega
      obtain ⟨hir, _⟩ := rowI_reads (T3.out.get (i := 1) rfl) (by rw [endsI_len, ← HN.out])
      obtain ⟨b, off, hA, hbl, hcell⟩ := hir.2 (by rw [endsI_len, ← HN.out]; omega)
      subst hA
      have y0 : w3.cell? ⟨b, off + J, none⟩ = some (.int .i64 W) := by
        refine hcell J _ ?_
        rw [ivs_get]
        unfold endsI
        rw [List.getElem?_map, offsF_get es 0 J (by rw [← HN.out]; exact hJN), hJ]
        simp only [Option.map_some, Nat.zero_add]
        rw [← HK.out, ← HBS.out, ← HWE.out]
      clear hcell hir hn0 hJ
      go_wp2_with fail
      go_meet
      exact ⟨rfl, rfl⟩
  case rest =>
    obtain ⟨rfl, hwc⟩ := hcut
    have hwc' := hwc.symm
    subst hwc'
    by_cases hkl : k < L
    · have d3 : decide (W < bs + (L : Int)) = true := decide_eq_true (by omega)
      by_cases hdn : ar = true ∧ p.fd ≤ p.done
      · have HC := Lib.hid (lCut_down (w := w3) (d := ⟨g, gp, ar, [p]⟩) 0 (p := p) (T3.out.get (i := 0) rfl) (by simp) rfl HP.out.2.2.1 HP.out.2.2.2 hdn.1 hdn.2 (k := k))
        rw [← HBS.out, ← HWE.out] at HC
        have HD := Lib.hid (And.intro hkl hdn)
        clear hdn hkl
        go_wp2_with fail
        refine HC.out.mono ?_
        rintro e w4 ⟨rfl, hb4⟩
        have HR := Lib.hid (show RbdPost gl g gp ar p es start w (.returned (.tuple #[.pointer none, .int .i64 0, .int .i64 80])) w4 from ⟨S, now, n, HG.out.1, .inr ⟨by rw [← HK.out, ← HL.out]; exact HD.out.1, HD.out.2.1, HD.out.2.2, rfl, (T3.out.sub (List.Sublist.cons_cons _ (List.nil_sublist _))).go hb4⟩⟩)
        clear hb4 T3
        go_wp2
        go_ret3
        exact HR.out
      · have HC := Lib.hid (lCut_any (w := w3) (d := ⟨g, gp, ar, [p]⟩) 0 (p := p) (T3.out.get (i := 0) rfl) (by simp) rfl HP.out.2.2.1 HP.out.2.2.2 (fun ha => by
          have ha' : ar = true := ha
          have : ¬ p.fd ≤ p.done := fun hh => hdn ⟨ha', hh⟩
          omega) (k := k) (by rw [← HL.out]; exact hkL) HP.out.2.1 HP.out.1.1 HP.out.1.2 (by rw [← HL.out]; omega))
        rw [← HBS.out, ← HWE.out] at HC
        have HD := Lib.hid (And.intro hkl hdn)
        clear hdn hkl
        go_wp2_with fail
        refine HC.out.mono ?_
        rintro e w4 ⟨b', rfl, _, rfl, t4⟩
        have HR := Lib.hid (show RbdPost gl g gp ar p es start w (.returned (.tuple #[.pointer (some ⟨gS, 0, none⟩), .int .i64 now, .int .i64 0])) w4 from ⟨S, now, n, HG.out.1, .inl ⟨fun _ ha => by
          have : ¬ p.fd ≤ p.done := fun hh => HD.out.2 ⟨ha, hh⟩
          omega, s, by rw [← HGS.out], HG.out.2.1, HG.out.2.2, by
          have t5 := (T3.out.step (i := 0) rfl t4).by_ 3 rfl [0, 2, 1] (by decide)
          unfold Pt.keep
          rw [if_pos (by rw [← HK.out, ← HL.out]; exact HD.out.1), ← HK.out]
          exact t5.sub (M := [_, _]) (List.Sublist.cons_cons _ (List.Sublist.cons_cons _ (List.nil_sublist _)))⟩⟩)
        clear t4 T3
        go_wp2
        go_ret3
        exact HR.out
    · have d3 : decide (W < bs + (L : Int)) = false := decide_eq_false (by omega)
      have HR := Lib.hid (show RbdPost gl g gp ar p es start w (.returned (.tuple #[.pointer (some ⟨gS, 0, none⟩), .int .i64 now, .int .i64 0])) w3 from ⟨S, now, n, HG.out.1, .inl ⟨fun hh => by rw [← HK.out, ← HL.out] at hh; exact absurd hh hkl, s, by rw [← HGS.out], HG.out.2.1, HG.out.2.2, by
        have t5 := T3.out.by_ 3 rfl [0, 2, 1] (by decide)
        unfold Pt.keep
        rw [if_neg (by rw [← HK.out, ← HL.out]; exact hkl)]
        exact t5.sub (M := [_, _]) (List.Sublist.cons_cons _ (List.Sublist.cons_cons _ (List.nil_sublist _)))⟩⟩)
      clear hkl T3
      go_wp2
      go_ret3
      exact HR.out
end Go.Proofs.YtmnpchncmbnddaaGreat
/- Rebuild: Image, by contract. -/
namespace Go.Proofs.YtmnpchncmbnddaaGreat
open Go.RowKit

def ImgPost (S : PS) (st : Int) (w : World) (e : Ending) (w' : World) : Prop :=
  ∃ (ts : List Told) (A : Option Addr) (n c : Nat), ts.map Told.x = imgF S st ∧ n = (imgF S st).length ∧ e = .returned (.slice A n c) ∧
    Turn (Item.all []) w (Item.all (Item.rowT 105 6 (.slice A n c) n (toldCells ts) :: toldRows ts)) w'
theorem PsOk.cs {s : St} {top : Int} (h : PsOk s.view top) : Rising s.cs := rising_map.1 h.rising
set_option maxRecDepth 100000 in
set_option maxHeartbeats 6400000 in
theorem image_of {w : World} {pv : Option Addr} {S : PS} {top st : Int} (hv : Calls Tryz.prog 43 #[.pointer pv] w (VersPost S w)) (hp : PsOk S top) (htot : totP S ≤ 1099511627776) :
    Calls Tryz.prog 50 #[.pointer pv, .int .i64 st] w (ImgPost S st w) := by
  have HP := Lib.hid hp
  have HVC := Lib.hid hv
  have HTOT := Lib.hid (show (versF S).length ≤ 1099511627776 from by rw [totP_vers]; exact htot)
  clear hv hp htot
  go_enter Tryz.func50, Tryz.ntmps50
  go_wp2_with fail
  refine HVC.out.mono ?_
  rintro e w1 ⟨hs, A, c, hhs, rfl, t1⟩
  obtain ⟨N, hN⟩ : ∃ N, N = hs.length := ⟨_, rfl⟩
  rw [← hN] at t1 ⊢
  obtain ⟨l, hl⟩ : ∃ l, l = versF S := ⟨_, rfl⟩
  have HLE := Lib.hid hl
  have hNl : N = l.length := by rw [hN, hl, ← hhs, List.length_map]
  have HN := Lib.hid hNl
  have HVS := Lib.hid (show ∀ v ∈ l, v.ofVersion.chk = 0 ∧ v.stamp ≤ top ∧ 0 ≤ v.stamp ∧ v.key.size ≤ 255 ∧ v.value.length ≤ 4096 from fun v hv => HP.out.vn (by rw [← hl]; exact hv))
  have HCH := Lib.hid (show ∀ v ∈ l, v.ofVersion.stamp ≤ 4611686018427387904 from fun v hv => by
    have h1 := (HVS.out v hv).1
    unfold En.chk at h1
    by_cases hm : v.ofVersion.may
    · exact (may_5v.1 hm).2.2.2.1
    · rw [if_neg hm] at h1; cases h1)
  have HSL := Lib.hid (show kVn.Sl w1 w1.heap.size A l from by
    rw [hl, ← hhs]
    exact hv_sl t1.p hN (fun e he => by
      rw [hhs, ← hl] at he
      have h1 := HVS.out e he
      have h2 : e.stamp ≤ 4611686018427387904 := HCH.out e he
      exact ⟨by omega, by omega⟩))
  have HNB := Lib.hid (show Turn (Item.all []) w (Item.all []) w1 from t1.sub (List.nil_sublist _))
  have hN48 : N ≤ 1099511627776 := by rw [hNl, hl]; exact HTOT.out
  clear hhs hN t1 hl hNl HVC HTOT
  obtain ⟨w2, hw2⟩ : ∃ x, x = w1.alloc (.cells #[.int .i64 4, .int .i64 st, .int .i64 N, .string ⟨#[]⟩, .slice none 0 0, .bool false] 105) := ⟨_, rfl⟩
  have HW2 := Lib.hid hw2
  obtain ⟨g2, hg2⟩ : ∃ g, g = w1.heap.size := ⟨_, rfl⟩
  have T2 := Lib.hid (show Turn (Item.all []) w1 (Item.all (Item.rowT 105 6 (.slice (some ⟨g2, 0, none⟩) 1 1) 1 (toldCells [⟨⟨4, st, N, ⟨#[]⟩, [], false⟩, none, 0⟩]) :: toldRows [⟨⟨4, st, N, ⟨#[]⟩, [], false⟩, none, 0⟩])) w2 from by
    rw [hw2, hg2]
    exact ((Turn.none_ (w := w1)).more (y := Item.row (.slice none 0 0) []) (Below.refl _ _) (BOwns.nil _ _) (fun k hk => by cases hk)).more (y := Item.rowT 105 6 (.slice (some ⟨w1.heap.size, 0, none⟩) 1 1) 1 _) ((Below.refl _ _).alloc (Nat.le_refl _) _) (row_new rfl (by omega)) (fun k hk => own_new hk))
  clear hw2
  go_upto_region 3 with fail
  rw [← HW2.out, ← hg2]
  clear HW2 hg2
  go_wp2
  go_loopw [18, 6] (fun t u wr => ∃ (K m c' : Nat) (A' : Option Addr), t = .int .i64 K ∧ u = .slice A' m c' ∧ K ≤ N ∧ m ≤ K + 1 ∧ K + 1 ≤ m ∧ Hid (∃ ts : List Told, ts.length = m ∧ ts.map Told.x = ⟨4, st, N, ⟨#[]⟩, [], false⟩ :: (l.take K).map Vn.ofVersion ∧ Turn (Item.all []) w1 (Item.all (Item.rowT 105 6 (.slice A' m c') m (toldCells ts) :: toldRows ts)) wr)) (fun t _ _ => N - (intOf t).toNat)
  case atStart => exact ⟨0, 1, 1, _, rfl, rfl, by omega, by omega, by omega, Lib.hid ⟨_, rfl, rfl, T2.out⟩⟩
  case round =>
    obtain ⟨K, m, c', A', rfl, rfl, hK, hm1, hm2, hH⟩ := hrel
    clear T2
    by_cases hlt : (K : Int) < (N : Int)
    · have hKN : K < l.length := by have := HN.out; omega
      have hKi : K + 1 ≤ N := by omega
      have hbw : Hid (Below w1.heap.size w1 wr) := by obtain ⟨ts, _, _, hT⟩ := hH.out; exact Lib.hid hT.free
      obtain ⟨bb, off, Av, cv, hA, hbb, hints, s0, s1, s2, s3, hval, hvc⟩ := vn_at (HSL.out.below hbw.out) hKN
      subst hA
      have hbr : bb < wr.heap.size := Nat.lt_of_lt_of_le hbb hbw.out.size
      obtain ⟨x, hx⟩ : ∃ x, x = l[K] := ⟨_, rfl⟩
      have hvl : x.value.length ≤ 140737488355328 := by
        have := (HVS.out x (by rw [hx]; exact List.getElem_mem hKN)).2.2.2.2
        omega
      have HX := Lib.hid hx
      rw [← hx] at s0 s1 s2 s3 hval
      obtain ⟨key, st', v, dd⟩ := x
      simp only at s0 s1 s2 s3 hval hvl
      have HVW : Hid (BReads wr wr.heap.size Av v) := Lib.hid ((hval.more hbw.out.size))
      clear hx hints hval hvc hbb
      go_wp2_with fail
      refine (ofVersion_any (w := wr.alloc (.cells #[.string key, .int .i64 st', .slice Av v.length cv, .bool dd] 51)) (A := Av) (c := cv) ⟨key, st', v, dd⟩ ((HVW.out.below ((Below.refl _ _).alloc (Nat.le_refl _) _)).more ((Below.refl wr.heap.size wr).alloc (Nat.le_refl _) _).size) hvl).mono ?_
      rintro e w2 ⟨A2, c2, rfl, ho, hb2⟩
      obtain ⟨E, hE⟩ : ∃ E, E = Vn.ofVersion ⟨key, st', v, dd⟩ := ⟨_, rfl⟩
      have HE := Lib.hid hE
      rw [← hE] at ho ⊢
      clear hE s0 s1 s2 s3
      obtain ⟨ts, h1, h2, h4⟩ := hH.out
      have T2 := Lib.hid ((h4.go ((Below.refl wr.heap.size wr).alloc (Nat.le_refl _) (.cells #[.string key, .int .i64 st', .slice Av v.length cv, .bool dd] 51))).add (y := Item.row (.slice A2 E.value.length c2) E.value) hb2 (owns_less ho (Nat.zero_le _)) (fun k hk => (ho.lt hk).1))
      clear h4 hb2 ho
      obtain ⟨k, s, n', ky, vv, de⟩ := E
      rw [show (En.cells ⟨k, s, n', ky, vv, de⟩ A2 c2) = #[.int .i64 k, .int .i64 s, .int .i64 n', .string ky, .slice A2 vv.length c2, .bool de] from rfl]
      simp only at T2
      go_wp2_with (at_builtin; refine Stop.of ?_)
      have T3 := Lib.hid (T2.out.go ((Below.refl w2.heap.size w2).alloc (Nat.le_refl _) (.cells #[.int .i64 k, .int .i64 s, .int .i64 n', .string ky, .slice A2 vv.length c2, .bool de] 105)))
      refine ⟨wpList_append_any _ rfl rfl 0 Tryz.underlying63 Tryz.info105 rfl (by decide) (by decide) rfl (T3.out.get (i := 0) rfl) rfl (fresh_src (Blk.new w2 105 #[.int .i64 k, .int .i64 s, .int .i64 n', .string ky, .slice A2 vv.length c2, .bool de]) Tryz.underlying63 rfl (by decide) rfl) (by omega) (Nat.zero_le _) ?_⟩
      intro v' w3 ho hg hf
      have T4 := T3.out.step (i := 0) rfl (Turn.rowT (v := .slice A' m c') (n := m) (xs := toldCells ts) ho hg hf)
      obtain ⟨A3, c3, rfl, _, _⟩ := own_slice ho
      have HR := Lib.hid (show ∃ ts : List Told, ts.length = m + 1 ∧ ts.map Told.x = ⟨4, st, N, ⟨#[]⟩, [], false⟩ :: (l.take (K + 1)).map Vn.ofVersion ∧ Turn (Item.all []) w1 (Item.all (Item.rowT 105 6 (.slice A3 (m + 1) c3) (m + 1) (toldCells ts) :: toldRows ts)) w3 from
        ⟨ts ++ [⟨⟨k, s, n', ky, vv, de⟩, A2, c2⟩], by simp [h1], by
          rw [List.take_succ_eq_append_getElem hKN, List.map_append, List.map_append, h2, ← HX.out]
          show _ ++ [_] = _ :: (_ ++ [Vn.ofVersion _])
          rw [← HE.out]; rfl, by
          rw [toldCells_snoc, toldRows_snoc]
          exact T4.permR (List.Perm.cons _ (List.perm_append_singleton _ _).symm)⟩)
      clear h1 h2 T2 T3 T4 ho hg hf hH HVW HX HE
      go_wp2
      exact ⟨⟨K + 1, m + 1, c3, A3, by go_num, rfl, hKi, by omega, by omega, HR⟩, by simp [intOf]; omega⟩
    · obtain rfl : K = N := by omega
      obtain ⟨ts, h1, h2, h4⟩ := hH.out
      have T0 := Lib.hid h4
      have H2 := Lib.hid h2
      clear hH h1 h2 h4
      go_wp2_with (at_builtin; refine Stop.of ?_)
      have T3 := Lib.hid ((T0.out.add (y := Item.row (.slice none 0 0) []) (Below.refl _ _) (BOwns.nil _ _) (fun k hk => by cases hk)).go ((Below.refl wr.heap.size wr).alloc (Nat.le_refl _) (.cells #[.int .i64 6, .int .i64 st, .int .i64 K, .string ⟨#[]⟩, .slice none 0 0, .bool false] 105)))
      refine ⟨wpList_append_any _ rfl rfl 0 Tryz.underlying63 Tryz.info105 rfl (by decide) (by decide) rfl (T3.out.get (i := 0) rfl) rfl (fresh_src (Blk.new wr 105 #[.int .i64 6, .int .i64 st, .int .i64 K, .string ⟨#[]⟩, .slice none 0 0, .bool false]) Tryz.underlying63 rfl (by decide) rfl) (by omega) (Nat.zero_le _) ?_⟩
      intro v' w3 ho hg hf
      have T4 := T3.out.step (i := 0) rfl (Turn.rowT (v := .slice A' m c') (n := m) (xs := toldCells ts) ho hg hf)
      obtain ⟨A3, c3, rfl, _, _⟩ := own_slice ho
      have HR := Lib.hid (show ImgPost S st w (.returned (.slice A3 (m + 1) c3)) w3 from
        ⟨ts ++ [⟨⟨6, st, K, ⟨#[]⟩, [], false⟩, none, 0⟩], A3, m + 1, c3, by
          unfold imgF
          rw [List.map_append, H2.out, ← HLE.out, ← HN.out, HN.out, List.take_length]; rfl, by
          rw [imgF_len, ← totP_vers, ← HLE.out, ← HN.out]; omega, rfl, by
          rw [toldCells_snoc, toldRows_snoc]
          exact HNB.out.join (L := []) (T4.permR (List.Perm.cons _ (List.perm_append_singleton _ _).symm))⟩)
      clear T0 T3 T4 H2 ho hg hf
      go_wp2
      go_ret
      exact HR.out
theorem image_any {w : World} {s : St} {N0 : Nat} {top st : Int} (h : s.item.P w) (hok : s.ok N0) (hp : PsOk s.view top) (hN : N0 ≤ 16777216) (htot : totP s.view ≤ 1099511627776) :
    Calls Tryz.prog 50 #[.pointer (some ⟨s.gs, 0, none⟩), .int .i64 st] w (ImgPost s.view st w) :=
  image_of (versions_any h hok hp.cs hN (by rw [totP_vers]; exact htot)) hp htot
end Go.Proofs.YtmnpchncmbnddaaGreat
/- Laws of layer 20: rebuildFixed; are two lists alike. -/
namespace Go.Proofs.YtmnpchncmbnddaaGreat
open Go.RowKit

def rxA : En := ⟨1, 0, 0, ⟨#[97]⟩, [7], false⟩
def rxB : En := ⟨3, 1, 1, ⟨#[]⟩, [], false⟩
def rxC : En := ⟨1, 0, 0, ⟨#[98]⟩, [], false⟩
theorem rx_may : ∀ e ∈ [rxA, rxB, rxC], e.may := fun e he => by
  simp only [List.mem_cons, List.not_mem_nil, or_false] at he
  rcases he with rfl | rfl | rfl
  · unfold rxA; rw [may_1]; exact ⟨by decide, by decide, rfl, rfl, rfl, by decide⟩
  · unfold rxB; rw [may_m (by decide)]; exact ⟨by decide, by decide, by decide, by decide, by decide, rfl, rfl⟩
  · unfold rxC; rw [may_1]; exact ⟨by decide, by decide, rfl, rfl, rfl, by decide⟩
def rxS : PS := [([97], [⟨1, [7], false⟩])]
theorem rx_comG : comG 1 [] [rxA, rxB, rxC] = some [rxA] := by
  have h1 : rxA.chk = 0 := En.chk_ok (rx_may _ (List.mem_cons_self ..))
  have h2 : rxB.chk = 0 := En.chk_ok (rx_may _ (List.mem_cons_of_mem _ (List.mem_cons_self ..)))
  unfold comG
  rw [if_neg (by rw [h1]; decide), if_pos (.inl rfl), if_neg (by decide)]
  unfold comG
  rw [if_neg (by rw [h2]; decide), if_neg (by decide), if_pos (show rxB.kind = 3 from rfl), if_neg (by decide)]
  rfl
theorem rx_read : GrpEnd [rxA, rxB, rxC] 0 rxS 1 2 := by
  have h : grpF [] 0 0 ([rxA, rxB, rxC].drop 0) = some (rxS, 1, 2) := by
    rw [List.drop_zero, grpF_cons, if_neg (by decide), show IntKind.i64.wrap (0 + 1) = 1 from by decide, rx_comG]
    rfl
  have r := Grp.step (.zero (l := [rxA, rxB, rxC]) (start := 0)) h
  refine ⟨r, ?_⟩
  have h3 : rxC.chk = 0 := En.chk_ok (rx_may _ (List.mem_cons_of_mem _ (List.mem_cons_of_mem _ (List.mem_cons_self ..))))
  show grpF rxS 1 _ [rxC] = none
  rw [grpF_cons, if_neg (by decide)]
  unfold comG
  rw [if_neg (by rw [h3]; decide), if_pos (.inl rfl), if_neg (by decide)]
  rfl
theorem rx_ok : PsOk rxS 1 := rx_read.1.ok.1
theorem rx_img : imgF rxS 4 = [⟨4, 4, 1, ⟨#[]⟩, [], false⟩, ⟨5, 1, 0, ⟨#[97]⟩, [7], false⟩, ⟨6, 4, 1, ⟨#[]⟩, [], false⟩] := rfl
set_option maxRecDepth 100000 in
set_option maxHeartbeats 6400000 in
theorem rebuildFixed_any {w : World} : Calls Tryz.prog 40 #[] w (True_ w) := by
  obtain ⟨w1, hw1⟩ : ∃ x, x = w.alloc (.cells #[.int .u8 7] 5) := ⟨_, rfl⟩
  obtain ⟨w2, hw2⟩ : ∃ x, x = w1.alloc (.cells #[.int .i64 1, .int .i64 0, .int .i64 0, .string ⟨#[97]⟩, .slice (some ⟨w.heap.size, 0, none⟩) 1 1, .bool false, .int .i64 3, .int .i64 1, .int .i64 1, .string ⟨#[]⟩, .slice none 0 0, .bool false, .int .i64 1, .int .i64 0, .int .i64 0, .string ⟨#[98]⟩, .slice none 0 0, .bool false] 105) := ⟨_, rfl⟩
  have HW1 := Lib.hid hw1
  have HW2 := Lib.hid hw2
  have T1 : Turn (Item.all []) w (Item.all [Item.row (.slice (some ⟨w.heap.size, 0, none⟩) 1 1) [7]]) w1 := by
    rw [hw1]
    exact (Turn.none_ (w := w)).more (y := Item.row (.slice (some ⟨w.heap.size, 0, none⟩) 1 1) [7]) ((Below.refl _ _).alloc (Nat.le_refl _) _) (row_new rfl (by decide)) (fun k hk => own_new hk)
  have hs1 : w.heap.size + 1 = w1.heap.size := by rw [hw1]; simp
  have T2 : Turn (Item.all []) w (Item.all [Item.rowT 105 6 (.slice (some ⟨w1.heap.size, 0, none⟩) 3 3) 3 (toldCells [⟨rxA, some ⟨w.heap.size, 0, none⟩, 1⟩, ⟨rxB, none, 0⟩, ⟨rxC, none, 0⟩]), Item.row (.slice (some ⟨w.heap.size, 0, none⟩) 1 1) [7]]) w2 := by
    rw [hw2]
    exact T1.more (y := Item.rowT 105 6 (.slice (some ⟨w1.heap.size, 0, none⟩) 3 3) 3 _) ((Below.refl _ _).alloc (Nat.le_refl _) _) (row_new rfl (by decide)) (fun k hk => own_new hk)
  have HS := Lib.hid (sl_told (ts := [⟨rxA, some ⟨w.heap.size, 0, none⟩, 1⟩, ⟨rxB, none, 0⟩, ⟨rxC, none, 0⟩]) (T2.get (i := 0) rfl) rfl (fun i hi => by
    simp only [toldRows, List.map_cons, List.map_nil, List.mem_cons, List.not_mem_nil, or_false] at hi
    rcases hi with rfl | rfl | rfl
    · exact T2.get (i := 1) rfl
    · exact BOwns.nil _ _
    · exact BOwns.nil _ _) rx_may)
  have HB2 := Lib.hid T2.free
  have HRD := Lib.hid (show Calls Tryz.prog 45 #[.slice (some ⟨w1.heap.size, 0, none⟩) 3 3, .int .i64 0] w2 (RbReadPost [rxA, rxB, rxC] 0 w2) from rbRead_any (l := [rxA, rxB, rxC]) (c := 3) HS.out (Nat.le_refl _) (by decide) (by decide) (fun e he => by
    simp only [List.mem_cons, List.not_mem_nil, or_false] at he
    rcases he with rfl | rfl | rfl <;> exact ⟨by decide, by decide⟩))
  clear hw1 hw2 T1 T2 HS
  go_enter Tryz.func40, Tryz.ntmps40
  go_upto_region 2 with fail
  rw [← HW1.out, ← HW2.out]
  clear HW1 HW2 hs1
  go_wp2_with fail
  refine HRD.out.mono ?_
  rintro e w3 ⟨S, now, n, hg, s, rfl, hok, hv, t⟩
  obtain ⟨rfl, rfl, rfl⟩ := hg.one rx_read
  have HST := Lib.hid (And.intro hok hv)
  have T3 := Lib.hid t
  clear hg HRD hok t
  have HPS := Lib.hid (show PsOk s.view 1 from by rw [hv]; exact rx_ok)
  have HG1 := Lib.hid (get_any (w := w3) (key := ⟨#[97]⟩) (st := 1) (T3.out.get (i := 0) rfl) HST.out.1 (by decide) (fun p hp => (HPS.out.each p hp).2.1) (by decide))
  rw [hv, show getF rxS (ByteArray.mk #[97]).data.toList 1 = some [7] from rfl] at HG1
  clear hv
  go_wp2_with fail
  refine HG1.out.mono ?_
  rintro e w4 (⟨h1, _, _⟩ | ⟨l1, A1, c1, h1, rfl, ho1, hb1⟩)
  · cases h1
  injection h1 with h1
  subst h1
  have T4 := Lib.hid ((T3.out.add (y := Item.row (.slice A1 1 c1) [7]) hb1 (owns_less ho1 (Nat.zero_le _)) (fun k hk => (ho1.lt hk).1)))
  clear ho1 hb1 HG1 T3
  have HG2 := Lib.hid (get_any (w := w4) (key := ⟨#[98]⟩) (st := 9) (T4.out.get (i := 0) rfl) HST.out.1 (by decide) (fun p hp => (HPS.out.each p hp).2.1) (by decide))
  rw [HST.out.2, show getF rxS (ByteArray.mk #[98]).data.toList 9 = none from rfl] at HG2
  go_wp2_with fail
  refine HG2.out.mono ?_
  rintro e w5 (⟨_, rfl, hb2⟩ | ⟨l1, A2, c2, h1, _, _, _⟩)
  rotate_left
  · cases h1
  have T5 := Lib.hid (T4.out.go hb2)
  clear hb2 HG2 T4
  have HIM := Lib.hid (image_any (w := w5) (st := 4) (T5.out.get (i := 0) rfl) HST.out.1 HPS.out (by decide) (by rw [HST.out.2]; decide))
  rw [HST.out.2] at HIM
  go_wp2_with fail
  refine HIM.out.mono ?_
  rintro e w6 ⟨ts, A3, n3, c3, hts, hn3, rfl, t⟩
  rw [rx_img] at hts hn3
  have hn : n3 = 3 := hn3
  subst hn
  have T6 := Lib.hid (T5.out.join t)
  have HS6 := Lib.hid (show kEn.Sl w6 w6.heap.size A3 _ from hts ▸ sl_told (t.get (i := 0) rfl) (by rw [← List.length_map (f := Told.x), hts]; rfl) (fun i hi => Item.all_get t.p (List.mem_cons_of_mem _ hi)) (fun e he => by
    rw [hts] at he
    simp only [List.mem_cons, List.not_mem_nil, or_false] at he
    rcases he with rfl | rfl | rfl
    · rw [may_m (by decide)]; exact ⟨by decide, by decide, by decide, by decide, by decide, rfl, rfl⟩
    · rw [may_5]; exact ⟨by decide, by decide, by decide, by decide, rfl, by decide, by decide⟩
    · rw [may_m (by decide)]; exact ⟨by decide, by decide, by decide, by decide, by decide, rfl, rfl⟩))
  obtain ⟨b0, o0, Ax, cx, rfl, hb0, k1, s00, s01, k2, k3, k4, k5, k6⟩ := en_at HS6.out (i := 0) (by decide)
  clear k1 k2 k3 k4 k5 k6
  obtain ⟨b1, o1, Ay, cy, e1, k1, k2, k3, k4, k5, s13, k6, k7, k8⟩ := en_at HS6.out (i := 1) (by decide)
  injection e1 with e1
  injection e1 with e1 e2
  subst e1; subst e2
  clear k1 k2 k3 k4 k5 k6 k7 k8
  obtain ⟨b2, o2, Az, cz, e2, k1, k2, s20, k3, k4, k5, k6, k7, k8⟩ := en_at HS6.out (i := 2) (by decide)
  injection e2 with e2
  injection e2 with e2 e3
  subst e2; subst e3
  obtain ⟨Ao, co, eo, eol, ho⟩ := BOwns.slice (T6.out.get (i := 1) rfl : BOwns w6 0 (.slice A1 1 c1) [7])
  injection eo with eo1 eo3 eo2
  subst eo1; subst eo2
  clear eo3 eol
  obtain ⟨bb, ob, hA1, hbb, y0⟩ := ho.at_ (k := 0) (by decide)
  subst hA1
  have HR := Lib.hid (show ∀ W, Below w6.heap.size w6 W → True_ w (.returned (.bool true)) W from fun W hb => ⟨rfl, (T6.out.go hb).free |> fun h => HB2.out.trans (h.mono HB2.out.size)⟩)
  clear hts hn3 T5 HIM t HS6 ho T6
  have p00 : w6.cell? ⟨b0, o0, none⟩ = some (.int .i64 4) := s00
  have p01 : w6.cell? ⟨b0, o0 + 1, none⟩ = some (.int .i64 4) := s01
  have p13 : w6.cell? ⟨b0, o0 + 6 + 3, none⟩ = some (.string ⟨#[97]⟩) := s13
  have p20 : w6.cell? ⟨b0, o0 + 12, none⟩ = some (.int .i64 6) := s20
  have p30 : w6.cell? ⟨bb, ob, none⟩ = some (.int .u8 7) := y0
  clear s00 s01 s13 s20 y0 k1 k2 k3 k4 k5 k6 k7 k8
  go_wp2
  go_ret
  exact HR.out _ (Below.refl _ _)
end Go.Proofs.YtmnpchncmbnddaaGreat
/- Laws of layer 20: are two lists alike. -/
namespace Go.Proofs.YtmnpchncmbnddaaGreat
open Go.RowKit

set_option maxRecDepth 100000 in
set_option maxHeartbeats 3200000 in
theorem alike_any {w : World} {A A' : Option Addr} {c c' : Nat} {l : List Vn} (h : kVn.Sl w w.heap.size A l) (h' : kVn.Sl w w.heap.size A' l) (hl : l.length ≤ 140737488355328) : 
    Calls Tryz.prog 47 #[.slice A l.length c, .slice A' l.length c'] w (True_ w) := by
  have H := Lib.hid h
  have H' := Lib.hid h'
  clear h h'
  go_enter Tryz.func47, Tryz.ntmps47
  go_wp2
  go_loopw [13] (fun t wr => ∃ (K : Nat), t = .int .i64 K ∧ K ≤ l.length ∧ Hid (Below w.heap.size w wr)) (fun t _ => l.length - (intOf t).toNat)
  case atStart => exact ⟨0, rfl, by omega, Lib.hid (Below.refl _ _)⟩
  case round =>
    obtain ⟨K, rfl, hK, hB⟩ := hrel
    by_cases hlt : (K : Int) < (l.length : Int)
    · have hKN : K < l.length := by omega
      obtain ⟨bb, off, Av, cv, rfl, hbb, hints, s0, s1, s2, s3, hval, hcap⟩ := vn_at (H.out.below hB.out) hKN
      obtain ⟨bb', off', Av', cv', rfl, hbb', hints', s0', s1', s2', s3', hval', hcap'⟩ := vn_at (H'.out.below hB.out) hKN
      have hsz := hB.out.size
      obtain ⟨x, hx⟩ : ∃ x, x = l[K] := ⟨_, rfl⟩
      rw [← hx] at s0 s1 s2 s3 hval s0' s1' s2' s3' hval'
      have HV := Lib.hid ((hval.below (Below.refl _ _).drew).more hsz)
      have HV' := Lib.hid ((hval'.below (Below.refl _ _).drew).more hsz)
      obtain ⟨key, s, v, dd⟩ := x
      simp only at s0 s1 s2 s3 s0' s1' s2' s3'
      have hKi : K + 1 ≤ l.length := by omega
      clear hx hval hval' hints hints' hcap hcap'
      have hbr : bb < wr.drew.heap.size := Nat.lt_of_lt_of_le hbb hsz
      have hbr' : bb' < wr.drew.heap.size := Nat.lt_of_lt_of_le hbb' hsz
      go_wp2_with fail
      go_region_held3 (fun w' => w'.cell? ⟨bb, off + K * 4, none⟩ = some (.string key) ∧ w'.cell? ⟨bb, off + K * 4 + 1, none⟩ = some (.int .i64 s) ∧ w'.cell? ⟨bb, off + K * 4 + 2, none⟩ = some (.slice Av v.length cv) ∧ w'.cell? ⟨bb, off + K * 4 + 3, none⟩ = some (.bool dd) ∧ w'.cell? ⟨bb', off' + K * 4, none⟩ = some (.string key) ∧ w'.cell? ⟨bb', off' + K * 4 + 1, none⟩ = some (.int .i64 s) ∧ w'.cell? ⟨bb', off' + K * 4 + 2, none⟩ = some (.slice Av' v.length cv') ∧ w'.cell? ⟨bb', off' + K * 4 + 3, none⟩ = some (.bool dd)) (first | (with_reducible exact ⟨s0, s1, s2, s3, s0', s1', s2', s3'⟩) | (with_reducible exact ⟨z0, z1, z2, z3, z0b, z1b, z2b, z3b⟩) | go_keep) ((go_at_call 107; refine (sameVersion_any (A := Av) (A' := Av') (c := cv) (c' := cv') ⟨key, s, v, dd⟩ HV.out HV'.out).mono ?_; rintro e w2 ⟨rfl, hb⟩; have HB := Lib.hid (hB.out.trans (((Below.refl wr.heap.size wr).drew.trans hb).mono hsz)); have z0 := (hb.cell (p := ⟨bb, off + K * 4, none⟩) hbr).trans s0; have z1 := (hb.cell (p := ⟨bb, off + K * 4 + 1, none⟩) hbr).trans s1; have z2 := (hb.cell (p := ⟨bb, off + K * 4 + 2, none⟩) hbr).trans s2; have z3 := (hb.cell (p := ⟨bb, off + K * 4 + 3, none⟩) hbr).trans s3; have z0b := (hb.cell (p := ⟨bb', off' + K * 4, none⟩) hbr').trans s0'; have z1b := (hb.cell (p := ⟨bb', off' + K * 4 + 1, none⟩) hbr').trans s1'; have z2b := (hb.cell (p := ⟨bb', off' + K * 4 + 2, none⟩) hbr').trans s2'; have z3b := (hb.cell (p := ⟨bb', off' + K * 4 + 3, none⟩) hbr').trans s3'; clear hb))
      go_wp2
      exact ⟨⟨K + 1, by go_num, hKi, HB⟩, by simp [intOf]; omega⟩
    · obtain rfl : K = l.length := by omega
      go_wp2
      go_ret
      exact ⟨rfl, hB.out⟩
end Go.Proofs.YtmnpchncmbnddaaGreat
