/- Contracts and plain laws that this claim leans on, laid together: Rck, Rrd. -/
import Derived.Test.YtmnpchncmbnddaaG17
import Derived.Deep.CutRange
set_option linter.all false
set_option linter.unusedVariables false
set_option linter.unusedSimpArgs false
set_option linter.unnecessarySimpa false
/- The reference's Checkpoint, by contract. -/
namespace Go.Proofs.Ytmnpchncmbnddaa
open Go.RowKit

def RkPost (l : List En) (now : Int) (first : Bool) (w : World) (e : Ending) (w' : World) : Prop :=
  ckR now first l = none ∧ e = .returned (.tuple #[.slice none 0 0, .int .i64 0]) ∧ Below w.heap.size w w' ∨
  ∃ (st : Int) (A : Option Addr) (n c N : Nat) (hs : List Hv), ckR now first l = some (hs.map Hv.x, st, N) ∧ n = hs.length ∧ N = n + 2 ∧ e = .returned (.tuple #[.slice A n c, .int .i64 N]) ∧ Turn (Item.all []) w (Item.all [gV A n c hs]) w'
/-- What holds while the versions are gone through. -/
def RkIn (w : World) (q : List En) (top : Int) (K c' : Nat) (A' : Option Addr) (wr : World) : Prop :=
  ∃ hs : List Hv, hs.map Hv.x = (q.take K).map vOf ∧ ckV top [] q = ckV top ((q.take K).map vOf) (q.drop K) ∧ Turn (Item.all []) w (Item.all [gV A' K c' hs]) wr
section
variable {l : List En} {now : Int} {first : Bool} {o e : En} {N : Nat}
theorem ckR_short (h : l.length < 2) : ckR now first l = none := by
  cases l with
  | nil => rfl
  | cons o r =>
    rw [ckR_cons]
    have hr : r.length = 0 := by rw [List.length_cons] at h; omega
    by_cases h1 : o.kind ≠ 4 ∨ o.chk ≠ 0
    · rw [if_pos h1]
    · rw [if_neg h1]
      have hm := may_of (Decidable.not_not.1 fun hh => h1 (.inr hh))
      have hk : o.kind = 4 := Decidable.not_not.1 fun hh => h1 (.inl hh)
      have h0 : 0 ≤ o.count := by
        obtain ⟨k, s, n, key, v, d⟩ := o
        simp only at hk
        subst hk
        rw [may_m (by decide)] at hm
        exact hm.2.2.2.1
      split
      · rfl
      · rw [if_pos (by rw [hr]; omega)]
theorem ckR_head (h : 0 < l.length) (ho : o = l[0]) (hb : o.kind ≠ 4 ∨ o.chk ≠ 0) : ckR now first l = none := by
  cases l with
  | nil => rfl
  | cons a r =>
    obtain rfl : o = a := ho
    rw [ckR_cons, if_pos hb]
theorem ckR_pre (h : 0 < l.length) (ho : o = l[0]) (hb : (o.stamp ≠ now ∧ ¬ (first = true ∧ now < o.stamp)) ∨ (l.length : Int) - 2 < o.count) : ckR now first l = none := by
  cases l with
  | nil => rfl
  | cons a r =>
    obtain rfl : o = a := ho
    rw [ckR_cons]
    split
    · rfl
    · split
      · rfl
      · rename_i h2
        rw [if_pos (by
          rcases hb with hb | hb
          · exact absurd hb h2
          · rw [List.length_cons] at hb; omega)]
theorem ckR_go (h : 0 < l.length) (ho : o = l[0]) (hk : o.kind = 4) (hc : o.chk = 0) (hp : ¬ (o.stamp ≠ now ∧ ¬ (first = true ∧ now < o.stamp))) (hn : o.count = N) (hN : N + 1 < l.length) (he : e = l[N + 1]) :
    ckR now first l = if e.kind = 6 ∧ e.stamp = o.stamp ∧ e.count = o.count ∧ e.chk = 0 then (match ckV o.stamp [] ((l.drop 1).take N) with | none => none | some vs => some (vs, o.stamp, N + 2)) else none := by
  cases l with
  | nil => cases h
  | cons a r =>
    obtain rfl : o = a := ho
    have hr : N < r.length := by rw [List.length_cons] at hN; omega
    rw [ckR_cons, if_neg (by rintro (hh | hh); exact hh hk; exact hh hc), if_neg hp, if_neg (by omega), hn, Int.toNat_natCast, List.getElem?_eq_getElem hr]
    have he' : e = r[N] := he
    rw [← he']
    rfl
theorem nextB_bad {v p : Vn} : (!nextB v p) = (Op.bytesLess v.key.toList p.key.toList || (v.key.toList == p.key.toList && decide (v.stamp ≤ p.stamp))) := by
  unfold nextB
  rw [ByteArray.toList_eq, ByteArray.toList_eq, bytesLess_eq]
  by_cases e : v.key.data.toList = p.key.data.toList
  · rw [e, bB_irrefl]
    by_cases hs : p.stamp < v.stamp
    · rw [decide_eq_true hs, decide_eq_false (show ¬ v.stamp ≤ p.stamp by omega)]; simp
    · rw [decide_eq_false hs, decide_eq_true (show v.stamp ≤ p.stamp by omega)]; simp
  · rw [beq_eq_false_iff_ne.2 e]; simp
end
set_option maxRecDepth 100000 in
set_option maxHeartbeats 25600000 in
theorem rcheckpoint_any {w : World} {A : Option Addr} {c : Nat} {l : List En} {now : Int} {first : Bool} (hS : kEn.Sl w w.heap.size A l) (hl : l.length ≤ 16777216) (hks : ∀ e ∈ l, e.key.size ≤ 1099511627776 ∧ e.value.length ≤ 1099511627776) :
    Calls Try.prog 31 #[.slice A l.length c, .int .i64 now, .bool first] w (RkPost l now first w) := by
  have HS := Lib.hid hS
  have HKS := Lib.hid hks
  obtain ⟨M, hM⟩ : ∃ M, M = l.length := ⟨_, rfl⟩
  have HM := Lib.hid hM
  rw [← hM] at hl ⊢
  clear hS hks hM
  go_enter Try.func31, Try.ntmps31
  by_cases h2 : M < 2
  · have d2 : decide ((M : Int) < 2) = true := decide_eq_true (by omega)
    have HRE := Lib.hid (show RkPost l now first w (.returned (.tuple #[.slice none 0 0, .int .i64 0])) w from .inl ⟨ckR_short (by have := HM.out; omega), rfl, Below.refl _ _⟩)
    clear h2
    go_wp2
    go_ret2
    exact HRE.out
  have d2 : decide ((M : Int) < 2) = false := decide_eq_false (by omega)
  have hM0 : 0 < M := by omega
  have hM2 : 2 ≤ M := by omega
  have h0l : 0 < l.length := by have := HM.out; omega
  clear h2
  obtain ⟨bb, off, Av, cv, hA, hbb, hints, s0, s1, s2, s3, s4, s5, hval⟩ := en_at HS.out h0l
  subst hA
  obtain ⟨x, hx⟩ : ∃ x, x = l[0] := ⟨_, rfl⟩
  have hxb := HKS.out x (by rw [hx]; exact List.getElem_mem _)
  rw [← hx] at s0 s1 s2 s3 s4 s5
  have HX := Lib.hid hx
  obtain ⟨k, st, nn, key, v, dd⟩ := x
  simp only [Nat.zero_mul, Nat.add_zero] at s0 s1 s2 s3 s4 s5 hxb
  have hbr : bb < w.heap.size := hbb
  have hxb1 := hxb.1
  have hxb2 := hxb.2
  have HH0 := Lib.hid (fun hb => ckR_head (now := now) (first := first) h0l HX.out hb)
  have HPR := Lib.hid (fun hb => ckR_pre (now := now) (first := first) h0l HX.out hb)
  rw [← HM.out] at HPR
  have HGO := Lib.hid (fun hk hc hp (N : Nat) hn hN e he => ckR_go (e := e) (N := N) (now := now) (first := first) h0l HX.out hk hc hp hn hN he)
  clear hx hxb hval hints hbb
  by_cases h4 : k = 4
  rotate_left
  · have e4 : decide (k = 4) = false := decide_eq_false h4
    have e4n : (k != 4) = true := bne_iff_ne.2 h4
    have b4 : (k == 4) = false := beq_false_of_ne h4
    have HRE := Lib.hid (show RkPost l now first w (.returned (.tuple #[.slice none 0 0, .int .i64 0])) w from .inl ⟨HH0.out (.inl h4), rfl, Below.refl _ _⟩)
    clear h4
    go_wp2
    go_ret2
    exact HRE.out
  subst h4
  have HCK := Lib.hid (fun (W : World) => rcheck_any (w := W) (A := Av) (c := cv) ⟨4, st, nn, key, v, dd⟩ (by simp only; omega) (by simp only; omega))
  obtain ⟨R, hR⟩ : ∃ R, R = En.chk ⟨4, st, nn, key, v, dd⟩ := ⟨_, rfl⟩
  rw [← hR, show En.cells ⟨4, st, nn, key, v, dd⟩ Av cv = #[.int .i64 4, .int .i64 st, .int .i64 nn, .string key, .slice Av v.length cv, .bool dd] from rfl] at HCK
  have HR := Lib.hid hR
  clear hR
  go_wp2_with fail
  refine (HCK.out _).mono ?_
  rintro e w2 ⟨rfl, hb2⟩
  have B2 := Lib.hid hb2
  by_cases hr0 : R = 0
  rotate_left
  · have e1 : decide (R = 0) = false := decide_eq_false hr0
    have e1n : (R != 0) = true := bne_iff_ne.2 hr0
    have HRE := Lib.hid (show RkPost l now first w (.returned (.tuple #[.slice none 0 0, .int .i64 0])) w2 from .inl ⟨HH0.out (.inr fun h => hr0 (HR.out.trans h)), rfl, B2.out⟩)
    clear hr0 hb2
    go_wp2
    go_ret2
    exact HRE.out
  have HR0 := Lib.hid (HR.out.symm.trans hr0)
  subst hr0
  have hmay : 0 ≤ st ∧ st ≤ 4611686018427387904 ∧ 0 ≤ nn ∧ nn ≤ 2147483647 := by
    have hm := may_of HR0.out
    rw [may_m (by decide)] at hm
    exact ⟨hm.2.1, hm.2.2.1, hm.2.2.2.1, hm.2.2.2.2.1⟩
  obtain ⟨N, rfl⟩ : ∃ m : Nat, nn = (m : Int) := ⟨nn.toNat, by omega⟩
  have hN31 : N ≤ 2147483647 := by omega
  have HST := Lib.hid (And.intro hmay.1 hmay.2.1)
  clear hmay
  have y1 := (B2.out.cell (p := ⟨bb, off + 1, none⟩) hbr).trans s1
  have y2 := (B2.out.cell (p := ⟨bb, off + 2, none⟩) hbr).trans s2
  have hbr2 : bb < w2.heap.size := Nat.lt_of_lt_of_le hbr B2.out.size
  clear s0 s1 s2 s3 s4 s5 hb2 HCK HR
  go_upto_region 3 with fail
  go_quiet (fail)
  have B3 := Lib.hid (B2.out.trans ((below_drewN (Below.refl w2.heap.size w2) nq).mono B2.out.size))
  obtain ⟨w3, hw3⟩ : ∃ y, y = w2.drewN nq := ⟨_, rfl⟩
  rw [← hw3] at B3 ⊢
  clear hw3 y1 y2 hbr2 B2
  obtain ⟨B, hB⟩ : ∃ B, B = (decide (st ≠ now ∧ ¬ (first = true ∧ now < st)) || decide ((M : Int) - 2 < (N : Int))) := ⟨_, rfl⟩
  have HB := Lib.hid hB
  clear hB
  go_upto_region 4 with fail
  go_cut [60] from 42 to 60 (fun u wc => u = .bool B ∧ wc = w3)
  case first =>
    by_cases e1 : st = now
    · have d1 : decide (st = now) = true := decide_eq_true e1
      have d1n : (st != now) = false := bne_eq_false_iff_eq.2 e1
      have HF := Lib.hid (show B = decide ((M : Int) - 2 < (N : Int)) from by rw [HB.out, decide_eq_false (fun h => h.1 e1)]; rfl)
      clear e1
      go_wp2_with fail
      go_meet
      exact ⟨by rw [HF.out], rfl⟩
    · have d1 : decide (st = now) = false := decide_eq_false e1
      have d1n : (st != now) = true := bne_iff_ne.2 e1
      cases first with
      | false =>
        have HF := Lib.hid (show B = true from by rw [HB.out, decide_eq_true ⟨e1, fun h => by cases h.1⟩]; rfl)
        clear e1
        go_wp2_with fail
        go_meet
        exact ⟨by rw [HF.out], rfl⟩
      | true =>
        by_cases e3 : now < st
        · have d3 : decide (now < st) = true := decide_eq_true e3
          have HF := Lib.hid (show B = decide ((M : Int) - 2 < (N : Int)) from by rw [HB.out, decide_eq_false (fun h => h.2 ⟨rfl, e3⟩)]; rfl)
          clear e1 e3
          go_wp2_with fail
          go_meet
          exact ⟨by rw [HF.out], rfl⟩
        · have d3 : decide (now < st) = false := decide_eq_false e3
          have HF := Lib.hid (show B = true from by rw [HB.out, decide_eq_true ⟨e1, fun h => e3 h.2⟩]; rfl)
          clear e1 e3
          go_wp2_with fail
          go_meet
          exact ⟨by rw [HF.out], rfl⟩
  case rest =>
    obtain ⟨rfl, hwc⟩ := hcut
    have hwc' := hwc.symm
    subst hwc'
    cases B with
    | true =>
      have HRE := Lib.hid (show RkPost l now first w (.returned (.tuple #[.slice none 0 0, .int .i64 0])) w3 from .inl ⟨HPR.out (by have h := HB.out.symm; rw [Bool.or_eq_true, decide_eq_true_eq, decide_eq_true_eq] at h; exact h), rfl, B3.out⟩)
      clear hwc
      go_wp2
      go_ret2
      exact HRE.out
    | false =>
      have hpn : ¬ (st ≠ now ∧ ¬ (first = true ∧ now < st)) ∧ ¬ ((M : Int) - 2 < (N : Int)) := by
        have h := HB.out.symm
        rw [Bool.or_eq_false_iff] at h
        exact ⟨of_decide_eq_false h.1, of_decide_eq_false h.2⟩
      have hNM : N + 2 ≤ M := by omega
      have HPP := Lib.hid hpn.1
      clear hpn HB
      obtain ⟨N1, hN1⟩ : ∃ n, n = N + 1 := ⟨_, rfl⟩
      have HN1 := Lib.hid hN1
      have hN1e : (N : Int) + 1 = (N1 : Int) := by omega
      have hN1l : N1 < l.length := by have := HM.out; omega
      have hN1M : N1 < M := by omega
      clear hN1
      obtain ⟨bb', off', Av2, cv2, hA, hbb, hints, s0, s1, s2, s3, s4, s5, hval⟩ := en_at (HS.out.below B3.out) hN1l
      injection hA with hA
      injection hA with e1 e2
      subst e1; subst e2
      obtain ⟨x, hx⟩ : ∃ x, x = l[N1] := ⟨_, rfl⟩
      have hxb := HKS.out x (by rw [hx]; exact List.getElem_mem _)
      rw [← hx] at s0 s1 s2 s3 s4 s5
      have HX1 := Lib.hid (show x = l[N + 1]'(by have := HM.out; omega) from by rw [hx]; simp only [HN1.out])
      obtain ⟨k2, st2, nn2, key2, v2, dd2⟩ := x
      simp only at s0 s1 s2 s3 s4 s5 hxb
      have hbr3 : bb < w3.heap.size := Nat.lt_of_lt_of_le hbb B3.out.size
      have hyb1 := hxb.1
      have hyb2 := hxb.2
      have HGO2 := Lib.hid (HGO.out (by trivial) HR0.out HPP.out N (by trivial) (by have := HM.out; omega) _ HX1.out)
      have HNE := Lib.hid (fun (h : ¬ ((⟨k2, st2, nn2, key2, v2, dd2⟩ : En).kind = 6 ∧ (⟨k2, st2, nn2, key2, v2, dd2⟩ : En).stamp = st ∧ (⟨k2, st2, nn2, key2, v2, dd2⟩ : En).count = (N : Int) ∧ (⟨k2, st2, nn2, key2, v2, dd2⟩ : En).chk = 0)) => HGO2.out.trans (if_neg h))
      have HCK2 := Lib.hid (fun (W : World) => rcheck_any (w := W) (A := Av2) (c := cv2) ⟨k2, st2, nn2, key2, v2, dd2⟩ (by simp only; omega) (by simp only; omega))
      rw [show En.cells ⟨k2, st2, nn2, key2, v2, dd2⟩ Av2 cv2 = #[.int .i64 k2, .int .i64 st2, .int .i64 nn2, .string key2, .slice Av2 v2.length cv2, .bool dd2] from rfl] at HCK2
      obtain ⟨g4, hg4⟩ : ∃ g, g = w3.heap.size := ⟨_, rfl⟩
      obtain ⟨w4, hw4⟩ : ∃ y, y = w3.alloc (.cells #[.int .i64 k2, .int .i64 st2, .int .i64 nn2, .string key2, .slice Av2 v2.length cv2, .bool dd2] 26) := ⟨_, rfl⟩
      have HW4 := Lib.hid hw4
      have T4 := Lib.hid (show Turn (Item.all []) w (Item.all [Item.blk g4 26 #[.int .i64 k2, .int .i64 st2, .int .i64 nn2, .string key2, .slice Av2 v2.length cv2, .bool dd2]]) w4 from by
        rw [hw4, hg4]
        exact ((Turn.none_ (w := w)).go B3.out).more (y := Item.blk w3.heap.size 26 #[.int .i64 k2, .int .i64 st2, .int .i64 nn2, .string key2, .slice Av2 v2.length cv2, .bool dd2]) ((Below.refl _ _).alloc (Nat.le_refl _) _) (Blk.new _ _ _) (fun k hk => Nat.le_of_eq hk.symm))
      clear hx hxb hval hints hbb hw4 HGO HH0 HPR
      go_upto_region 7 with fail
      rw [← HW4.out]
      rw [← hg4]
      clear HW4 hg4 s0 s1 s2 s3 s4 s5 hbr3
      have q0 := Blk.cell (show Blk w4 g4 _ #[.int .i64 k2, .int .i64 st2, .int .i64 nn2, .string key2, .slice Av2 v2.length cv2, .bool dd2] from T4.out.get (i := 0) rfl) 0
      have q1 := Blk.cell (show Blk w4 g4 _ #[.int .i64 k2, .int .i64 st2, .int .i64 nn2, .string key2, .slice Av2 v2.length cv2, .bool dd2] from T4.out.get (i := 0) rfl) 1
      have q2 := Blk.cell (show Blk w4 g4 _ #[.int .i64 k2, .int .i64 st2, .int .i64 nn2, .string key2, .slice Av2 v2.length cv2, .bool dd2] from T4.out.get (i := 0) rfl) 2
      have q3 := Blk.cell (show Blk w4 g4 _ #[.int .i64 k2, .int .i64 st2, .int .i64 nn2, .string key2, .slice Av2 v2.length cv2, .bool dd2] from T4.out.get (i := 0) rfl) 3
      have q4 := Blk.cell (show Blk w4 g4 _ #[.int .i64 k2, .int .i64 st2, .int .i64 nn2, .string key2, .slice Av2 v2.length cv2, .bool dd2] from T4.out.get (i := 0) rfl) 4
      have q5 := Blk.cell (show Blk w4 g4 _ #[.int .i64 k2, .int .i64 st2, .int .i64 nn2, .string key2, .slice Av2 v2.length cv2, .bool dd2] from T4.out.get (i := 0) rfl) 5
      simp only [List.getElem?_toArray, List.getElem?_cons_zero, List.getElem?_cons_succ] at q0 q1 q2 q3 q4 q5
      by_cases h6 : k2 = 6
      rotate_left
      · have e6 : decide (k2 = 6) = false := decide_eq_false h6
        have e6n : (k2 != 6) = true := bne_iff_ne.2 h6
        have HRE := Lib.hid (show RkPost l now first w (.returned (.tuple #[.slice none 0 0, .int .i64 0])) w4 from .inl ⟨HNE.out (fun h => h6 h.1), rfl, T4.out.free⟩)
        clear h6
        go_wp2
        go_ret2
        exact HRE.out
      subst h6
      obtain ⟨R, hR⟩ : ∃ R, R = En.chk ⟨6, st2, nn2, key2, v2, dd2⟩ := ⟨_, rfl⟩
      rw [← hR] at HCK2
      have HR := Lib.hid hR
      clear hR
      go_wp2_with fail
      refine (HCK2.out _).mono ?_
      rintro e w5 ⟨rfl, hb5⟩
      have T5 := Lib.hid (T4.out.go hb5)
      clear q0 q1 q2 q3 q4 q5 hb5 T4 HCK2
      have q1 := Blk.cell (show Blk w5 g4 _ #[.int .i64 6, .int .i64 st2, .int .i64 nn2, .string key2, .slice Av2 v2.length cv2, .bool dd2] from T5.out.get (i := 0) rfl) 1
      have q2 := Blk.cell (show Blk w5 g4 _ #[.int .i64 6, .int .i64 st2, .int .i64 nn2, .string key2, .slice Av2 v2.length cv2, .bool dd2] from T5.out.get (i := 0) rfl) 2
      simp only [List.getElem?_toArray, List.getElem?_cons_zero, List.getElem?_cons_succ] at q1 q2
      by_cases hr0 : R = 0
      rotate_left
      · have e1 : decide (R = 0) = false := decide_eq_false hr0
        have e1n : (R != 0) = true := bne_iff_ne.2 hr0
        have HRE := Lib.hid (show RkPost l now first w (.returned (.tuple #[.slice none 0 0, .int .i64 0])) w5 from .inl ⟨HNE.out (fun h => hr0 (HR.out.trans h.2.2.2)), rfl, T5.out.free⟩)
        clear hr0
        go_wp2
        go_ret2
        exact HRE.out
      have HR6 := Lib.hid (HR.out.symm.trans hr0)
      subst hr0
      by_cases hs : st2 = st
      rotate_left
      · have e1 : decide (st2 = st) = false := decide_eq_false hs
        have e1n : (st2 != st) = true := bne_iff_ne.2 hs
        have HRE := Lib.hid (show RkPost l now first w (.returned (.tuple #[.slice none 0 0, .int .i64 0])) w5 from .inl ⟨HNE.out (fun h => hs h.2.1), rfl, T5.out.free⟩)
        clear hs
        go_wp2
        go_ret2
        exact HRE.out
      subst hs
      by_cases hn : nn2 = (N : Int)
      rotate_left
      · have e1 : decide (nn2 = (N : Int)) = false := decide_eq_false hn
        have e1n : (nn2 != (N : Int)) = true := bne_iff_ne.2 hn
        have HRE := Lib.hid (show RkPost l now first w (.returned (.tuple #[.slice none 0 0, .int .i64 0])) w5 from .inl ⟨HNE.out (fun h => hn h.2.2.1), rfl, T5.out.free⟩)
        clear hn
        go_wp2
        go_ret2
        exact HRE.out
      subst hn
      obtain ⟨q, hq⟩ : ∃ q, q = (l.drop 1).take N := ⟨_, rfl⟩
      have HQ := Lib.hid hq
      have HCR := Lib.hid (show ckR now first l = match ckV st2 [] q with | none => none | some vs => some (vs, st2, N + 2) from by
        rw [HGO2.out, if_pos (by refine ⟨?_, ?_, ?_, ?_⟩ <;> first | trivial | exact HR6.out), hq])
      have HQL := Lib.hid (show q.length = N from by rw [hq, List.length_take, List.length_drop, ← HM.out]; omega)
      have T6 := Lib.hid (show RkIn w q st2 0 0 none w5 from ⟨[], rfl, rfl, (T5.out.more (y := gV none 0 0 []) (Below.refl _ _) gV_nil (fun k hk => by
        obtain ⟨i, hi, hk⟩ := hk
        rcases List.mem_cons.1 hi with rfl | hi
        · cases hk
        · cases hi)).sub (List.Sublist.cons_cons _ (List.nil_sublist _))⟩)
      obtain ⟨st, hst⟩ : ∃ s, s = st2 := ⟨_, rfl⟩
      rw [← hst] at HCR T6 HST q1 ⊢
      clear hq T5 HNE HGO2 HR hst
      go_wp2
      clear q1 q2 HPP HX HX1 HR0 HR6
      go_loopw [12, 11] (fun t u wr => ∃ (K I c' : Nat) (A' : Option Addr), t = .int .i64 I ∧ u = .slice A' K c' ∧ K ≤ N ∧ I ≤ K + 1 ∧ K + 1 ≤ I ∧ Hid (RkIn w q st K c' A' wr)) (fun t _ _ => N + 1 - (intOf t).toNat)
      case atStart => exact ⟨0, 1, 0, none, rfl, rfl, Nat.zero_le _, by omega, by omega, T6⟩
      case round =>
        clear T6
        obtain ⟨K, I, c', A', rfl, rfl, hK, hI1, hI2, hH⟩ := hrel
        by_cases hlt : (I : Int) ≤ (N : Int)
        · have hil : I < l.length := by have := HM.out; omega
          have hiM : I < M := by omega
          have hii : K + 1 ≤ N := by omega
          obtain ⟨hs, hhs, hgd, hT⟩ := hH.out
          have HGD := Lib.hid (And.intro hhs hgd)
          have HKQ := Lib.hid (show K < q.length from by rw [HQL.out]; omega)
          have hbw := hT.free
          obtain ⟨bb', off', Av2, cv2, hA, hbb, hints, s0, s1, s2, s3, s4, s5, hval⟩ := en_at (HS.out.below hbw) hil
          injection hA with hA
          injection hA with e1 e2
          subst e1; subst e2
          obtain ⟨x2, hx2⟩ : ∃ x, x = l[I] := ⟨_, rfl⟩
          have hxb := HKS.out x2 (by rw [hx2]; exact List.getElem_mem _)
          rw [← hx2] at s0 s1 s2 s3 s4 s5 hval
          have hxq : x2 = q[K]'HKQ.out := by
            have e : I = 1 + K := by omega
            subst e
            rw [hx2]
            simp only [HQ.out, List.getElem_take, List.getElem_drop]
          have HXQ := Lib.hid hxq
          have HBADQ := Lib.hid (fun hb => ckV_bad (top := st) HKQ.out hxq hb)
          have HDNQ := Lib.hid (fun hb => ckV_down (top := st) HKQ.out hxq hb)
          have HUPQ := Lib.hid (fun hc hb => ckV_up (top := st) HKQ.out hxq hc hb)
          have HNOQ := Lib.hid (fun (h : ckV st ((q.take K).map vOf) (q.drop K) = none) => (show ckR now first l = none from by rw [HCR.out, hgd, h]))
          obtain ⟨k2, st2, nn2, key2, v2, dd2⟩ := x2
          simp only at s0 s1 s2 s3 s4 s5 hxb hval
          have hbr3 : bb < wr.heap.size := Nat.lt_of_lt_of_le hbb hbw.size
          have hyb1 := hxb.1
          have hyb2 := hxb.2
          have HCK2 := Lib.hid (fun (W : World) => rcheck_any (w := W) (A := Av2) (c := cv2) ⟨k2, st2, nn2, key2, v2, dd2⟩ (by simp only; omega) (by simp only; omega))
          rw [show En.cells ⟨k2, st2, nn2, key2, v2, dd2⟩ Av2 cv2 = #[.int .i64 k2, .int .i64 st2, .int .i64 nn2, .string key2, .slice Av2 v2.length cv2, .bool dd2] from rfl] at HCK2
          obtain ⟨g2, hg2⟩ : ∃ g, g = wr.heap.size := ⟨_, rfl⟩
          obtain ⟨w3, hw3⟩ : ∃ y, y = wr.alloc (.cells #[.int .i64 k2, .int .i64 st2, .int .i64 nn2, .string key2, .slice Av2 v2.length cv2, .bool dd2] 26) := ⟨_, rfl⟩
          have HW3 := Lib.hid hw3
          have T3 := Lib.hid (show Turn (Item.all []) w (Item.all [Item.blk g2 26 #[.int .i64 k2, .int .i64 st2, .int .i64 nn2, .string key2, .slice Av2 v2.length cv2, .bool dd2], gV A' K c' hs]) w3 from by
            rw [hw3, hg2]
            exact hT.more (y := Item.blk wr.heap.size 26 #[.int .i64 k2, .int .i64 st2, .int .i64 nn2, .string key2, .slice Av2 v2.length cv2, .bool dd2]) ((Below.refl _ _).alloc (Nat.le_refl _) _) (Blk.new _ _ _) (fun k hk => Nat.le_of_eq hk.symm))
          have hba : Below wr.heap.size wr w3 := by rw [hw3]; exact (Below.refl _ _).alloc (Nat.le_refl _) _
          have HVE := Lib.hid (rver_any (w := w3) (A := Av2) (c := cv2) ⟨k2, st2, nn2, key2, v2, dd2⟩ (((hval.more hbw.size).below hba).more hba.size) (by simp only; omega))
          rw [show En.cells ⟨k2, st2, nn2, key2, v2, dd2⟩ Av2 cv2 = #[.int .i64 k2, .int .i64 st2, .int .i64 nn2, .string key2, .slice Av2 v2.length cv2, .bool dd2] from rfl] at HVE
          clear hba hx2 hxb hxq hval hints hbb hw3 hT hhs hgd hH hbw
          go_upto_region 14 with fail
          rw [← HW3.out]
          rw [← hg2]
          clear HW3 hg2 s0 s1 s2 s3 s4 s5 hbr3
          have q0 := Blk.cell (show Blk w3 g2 _ #[.int .i64 k2, .int .i64 st2, .int .i64 nn2, .string key2, .slice Av2 v2.length cv2, .bool dd2] from T3.out.get (i := 0) rfl) 0
          have q1 := Blk.cell (show Blk w3 g2 _ #[.int .i64 k2, .int .i64 st2, .int .i64 nn2, .string key2, .slice Av2 v2.length cv2, .bool dd2] from T3.out.get (i := 0) rfl) 1
          have q2 := Blk.cell (show Blk w3 g2 _ #[.int .i64 k2, .int .i64 st2, .int .i64 nn2, .string key2, .slice Av2 v2.length cv2, .bool dd2] from T3.out.get (i := 0) rfl) 2
          have q3 := Blk.cell (show Blk w3 g2 _ #[.int .i64 k2, .int .i64 st2, .int .i64 nn2, .string key2, .slice Av2 v2.length cv2, .bool dd2] from T3.out.get (i := 0) rfl) 3
          have q4 := Blk.cell (show Blk w3 g2 _ #[.int .i64 k2, .int .i64 st2, .int .i64 nn2, .string key2, .slice Av2 v2.length cv2, .bool dd2] from T3.out.get (i := 0) rfl) 4
          have q5 := Blk.cell (show Blk w3 g2 _ #[.int .i64 k2, .int .i64 st2, .int .i64 nn2, .string key2, .slice Av2 v2.length cv2, .bool dd2] from T3.out.get (i := 0) rfl) 5
          simp only [List.getElem?_toArray, List.getElem?_cons_zero, List.getElem?_cons_succ] at q0 q1 q2 q3 q4 q5
          go_wp2_with fail
          refine HVE.out.mono ?_
          rintro e w4 ⟨A4, c4, rfl, ho4, hb4⟩
          obtain ⟨⟨vk, vs, vv, vd⟩, hV⟩ : ∃ V, V = (En.version ⟨k2, st2, nn2, key2, v2, dd2⟩).1 := ⟨_, rfl⟩
          obtain ⟨vb, hvb⟩ : ∃ V, V = (En.version ⟨k2, st2, nn2, key2, v2, dd2⟩).2 := ⟨_, rfl⟩
          rw [← hV] at ho4 ⊢
          rw [← hvb, show Vn.cells ⟨vk, vs, vv, vd⟩ A4 c4 = #[.string vk, .int .i64 vs, .slice A4 vv.length c4, .bool vd] from rfl]
          have HVV := Lib.hid hV
          simp only at ho4
          obtain ⟨gv, hgv⟩ : ∃ g, g = w4.heap.size := ⟨_, rfl⟩
          obtain ⟨w5, hw5⟩ : ∃ y, y = w4.alloc (.cells #[.string vk, .int .i64 vs, .slice A4 vv.length c4, .bool vd] 88) := ⟨_, rfl⟩
          have HW5 := Lib.hid hw5
          have T5 := Lib.hid (show Turn (Item.all []) w (Item.all [Item.blk gv 88 #[.string vk, .int .i64 vs, .slice A4 vv.length c4, .bool vd], Item.row (.slice A4 vv.length c4) vv, Item.blk g2 26 #[.int .i64 k2, .int .i64 st2, .int .i64 nn2, .string key2, .slice Av2 v2.length cv2, .bool dd2], gV A' K c' hs]) w5 from by
            have t4 := T3.out.more (y := Item.row (.slice A4 vv.length c4) vv) hb4 (owns_less ho4 (Nat.zero_le _)) (fun k hk => (ho4.lt hk).1)
            rw [hw5, hgv]
            exact t4.more (y := Item.blk w4.heap.size 88 #[.string vk, .int .i64 vs, .slice A4 vv.length c4, .bool vd]) ((Below.refl _ _).alloc (Nat.le_refl _) _) (Blk.new _ _ _) (fun k hk => Nat.le_of_eq hk.symm))
          clear q0 q1 q2 q3 q4 q5 hV hvb ho4 hb4 T3 HVE hw5
          go_upto_region 15 with fail
          rw [← HW5.out]
          rw [← hgv]
          clear HW5 hgv
          have q0 := Blk.cell (show Blk w5 g2 _ #[.int .i64 k2, .int .i64 st2, .int .i64 nn2, .string key2, .slice Av2 v2.length cv2, .bool dd2] from T5.out.get (i := 2) rfl) 0
          have q1 := Blk.cell (show Blk w5 g2 _ #[.int .i64 k2, .int .i64 st2, .int .i64 nn2, .string key2, .slice Av2 v2.length cv2, .bool dd2] from T5.out.get (i := 2) rfl) 1
          have q2 := Blk.cell (show Blk w5 g2 _ #[.int .i64 k2, .int .i64 st2, .int .i64 nn2, .string key2, .slice Av2 v2.length cv2, .bool dd2] from T5.out.get (i := 2) rfl) 2
          have q3 := Blk.cell (show Blk w5 g2 _ #[.int .i64 k2, .int .i64 st2, .int .i64 nn2, .string key2, .slice Av2 v2.length cv2, .bool dd2] from T5.out.get (i := 2) rfl) 3
          have q4 := Blk.cell (show Blk w5 g2 _ #[.int .i64 k2, .int .i64 st2, .int .i64 nn2, .string key2, .slice Av2 v2.length cv2, .bool dd2] from T5.out.get (i := 2) rfl) 4
          have q5 := Blk.cell (show Blk w5 g2 _ #[.int .i64 k2, .int .i64 st2, .int .i64 nn2, .string key2, .slice Av2 v2.length cv2, .bool dd2] from T5.out.get (i := 2) rfl) 5
          simp only [List.getElem?_toArray, List.getElem?_cons_zero, List.getElem?_cons_succ] at q0 q1 q2 q3 q4 q5
          by_cases h5 : k2 = 5
          rotate_left
          · have e1 : decide (k2 = 5) = false := decide_eq_false h5
            have e1n : (k2 != 5) = true := bne_iff_ne.2 h5
            have HRE := Lib.hid (show RkPost l now first w (.returned (.tuple #[.slice none 0 0, .int .i64 0])) w5 from .inl ⟨HNOQ.out (HBADQ.out (.inl h5)), rfl, T5.out.free⟩)
            clear h5
            go_wp2
            go_ret2
            exact HRE.out
          subst h5
          have HVE5 := Lib.hid (show (⟨vk, vs, vv, vd⟩ : Vn) = vOf ⟨5, st2, nn2, key2, v2, dd2⟩ from HVV.out)
          obtain ⟨rfl, rfl⟩ : vk = key2 ∧ vs = st2 := ⟨congrArg Vn.key HVE5.out, congrArg Vn.stamp HVE5.out⟩
          obtain ⟨R, hR⟩ : ∃ R, R = En.chk ⟨5, vs, nn2, vk, v2, dd2⟩ := ⟨_, rfl⟩
          rw [← hR] at HCK2
          have HR := Lib.hid hR
          clear hR
          go_wp2_with fail
          refine (HCK2.out _).mono ?_
          rintro e w7 ⟨rfl, hb7⟩
          have T7 := Lib.hid (T5.out.go hb7)
          clear q0 q1 q2 q3 q4 q5 hb7 T5 HCK2
          have x0 := Blk.cell (show Blk w7 gv _ #[.string vk, .int .i64 vs, .slice A4 vv.length c4, .bool vd] from T7.out.get (i := 0) rfl) 0
          have x1 := Blk.cell (show Blk w7 gv _ #[.string vk, .int .i64 vs, .slice A4 vv.length c4, .bool vd] from T7.out.get (i := 0) rfl) 1
          simp only [List.getElem?_toArray, List.getElem?_cons_zero, List.getElem?_cons_succ] at x0 x1
          by_cases hr0 : R = 0
          rotate_left
          · have e1 : decide (R = 0) = false := decide_eq_false hr0
            have e1n : (R != 0) = true := bne_iff_ne.2 hr0
            have HRE := Lib.hid (show RkPost l now first w (.returned (.tuple #[.slice none 0 0, .int .i64 0])) w7 from .inl ⟨HNOQ.out (HBADQ.out (.inr (.inl fun h => hr0 (HR.out.trans h)))), rfl, T7.out.free⟩)
            clear hr0
            go_wp2
            go_ret2
            exact HRE.out
          have HR5 := Lib.hid (HR.out.symm.trans hr0)
          subst hr0
          by_cases hs2 : st < vs
          · have e1 : decide (st < vs) = true := decide_eq_true hs2
            have HRE := Lib.hid (show RkPost l now first w (.returned (.tuple #[.slice none 0 0, .int .i64 0])) w7 from .inl ⟨HNOQ.out (HBADQ.out (.inr (.inr hs2))), rfl, T7.out.free⟩)
            clear hs2
            go_wp2
            go_ret2
            exact HRE.out
          have e1 : decide (st < vs) = false := decide_eq_false hs2
          have HUPQ := Lib.hid (HUPQ.out (by rintro (h | h | h); exact h rfl; exact h HR5.out; exact hs2 h))
          clear hs2 HBADQ
          rcases Nat.eq_zero_or_pos K with h0 | h0
          · have HBN := Lib.hid (show badNext ((q.take K).map vOf) (vOf ⟨5, vs, nn2, vk, v2, dd2⟩) = false from by rw [h0]; exact badNext_0)
            have d0 : decide (1 < (I : Int)) = false := decide_eq_false (by omega)
            have d0' : decide (1 < I) = false := decide_eq_false (by omega)
            clear h0 x0 x1
            have HRR0 := Lib.hid (And.intro HGD.out.1 (HGD.out.2.trans (HUPQ.out HBN.out)))
            have x0 := Blk.cell (show Blk w7 gv _ #[.string vk, .int .i64 vs, .slice A4 vv.length c4, .bool vd] from T7.out.get (i := 0) rfl) 0
            have x1 := Blk.cell (show Blk w7 gv _ #[.string vk, .int .i64 vs, .slice A4 vv.length c4, .bool vd] from T7.out.get (i := 0) rfl) 1
            have x2 := Blk.cell (show Blk w7 gv _ #[.string vk, .int .i64 vs, .slice A4 vv.length c4, .bool vd] from T7.out.get (i := 0) rfl) 2
            have x3 := Blk.cell (show Blk w7 gv _ #[.string vk, .int .i64 vs, .slice A4 vv.length c4, .bool vd] from T7.out.get (i := 0) rfl) 3
            simp only [List.getElem?_toArray, List.getElem?_cons_zero, List.getElem?_cons_succ] at x0 x1 x2 x3
            go_wp2_with (at_builtin; refine Stop.of ?_)
            have T8 := Lib.hid (T7.out.go ((Below.refl w7.heap.size w7).alloc (Nat.le_refl _) (.cells #[.string vk, .int .i64 vs, .slice A4 vv.length c4, .bool vd] 88)))
            refine ⟨wpList_append_any _ rfl rfl 0 Try.underlying42 info_ver rfl (by decide) (by decide) rfl (show World.ownsRow _ 0 88 4 (.slice A' K c') K (hvCells hs) from Item.all_get (T8.out.get (i := 3) rfl) (List.mem_cons_self ..)) rfl (fresh_src (Blk.new w7 88 #[.string vk, .int .i64 vs, .slice A4 vv.length c4, .bool vd]) Try.underlying42 rfl (by decide) rfl) (by omega) (Nat.zero_le _) ?_⟩
            intro v' w8 ho hg hf
            obtain ⟨A8, c8, rfl, _, _⟩ := own_slice ho
            have T9 := Lib.hid (show Turn (Item.all []) w (Item.all [gV A8 (K + 1) c8 (hs ++ [⟨⟨vk, vs, vv, vd⟩, A4, c4⟩])]) w8 from by
              have t := T8.out.step (i := 3) rfl (gV_app (t := ⟨⟨vk, vs, vv, vd⟩, A4, c4⟩) (T8.out.get (i := 3) rfl) ho hg hf)
              have t2 := gV_joinL (t := ⟨⟨vk, vs, vv, vd⟩, A4, c4⟩) (t.by_ 4 rfl [3, 1, 0, 2] (by decide))
              exact t2.sub (List.Sublist.cons_cons _ (List.nil_sublist _)))
            have HRR := Lib.hid (show RkIn w q st (K + 1) c8 A8 w8 from ⟨_, by
              rw [List.map_append, HRR0.out.1, List.take_succ_eq_append_getElem HKQ.out, List.map_append, ← HXQ.out]
              show _ ++ [_] = _ ++ [vOf _]
              rw [← HVE5.out], HRR0.out.2, T9.out⟩)
            clear ho hg hf T7 T8 T9 x0 x1 x2 x3
            go_wp2
            exact ⟨⟨K + 1, I + 1, c8, A8, by go_num, rfl, hii, by omega, by omega, HRR⟩, by simp [intOf]; omega⟩
          · obtain ⟨J, hJ⟩ : ∃ J, K = J + 1 := ⟨K - 1, by omega⟩
            have hJq : J < q.length := by have := HKQ.out; omega
            have hhl : K = hs.length := by rw [← List.length_map (f := Hv.x), HGD.out.1, List.length_map, List.length_take]; have := HKQ.out; omega
            have hvi : ∀ e ∈ hs.map Hv.x, e.ints := fun e he => by
              rw [HGD.out.1] at he
              obtain ⟨y, hy, rfl⟩ := List.mem_map.1 he
              exact sl_eints HS.out y (List.mem_of_mem_drop (List.mem_of_mem_take (HQ.out ▸ List.mem_of_mem_take hy)))
            obtain ⟨ob, oo, LA, lc, hA', hob', z1, r0, r1, r2, r3, z2, z3⟩ := vn_at (hv_sl (T7.out.get (i := 3) rfl) hhl hvi) (i := J) (by rw [List.length_map]; omega)
            subst hA'
            obtain ⟨p, hp⟩ : ∃ p, p = (hs.map Hv.x)[J]'(by rw [List.length_map]; omega) := ⟨_, rfl⟩
            rw [← hp] at r0 r1 r2 r3
            have HBE := Lib.hid (show badNext ((q.take K).map vOf) (vOf ⟨5, vs, nn2, vk, v2, dd2⟩) = (Op.bytesLess vk.toList p.key.toList || (vk.toList == p.key.toList && decide (vs ≤ p.stamp))) from by
              have hpe : p = vOf q[J] := by
                rw [hp]
                simp only [HGD.out.1, List.getElem_map, List.getElem_take]
              have h := badNext_J (x := ⟨5, vs, nn2, vk, v2, dd2⟩) hJq hpe
              rw [hJ, h, nextB_bad]
              rfl)
            obtain ⟨pk, ps, pv, pd⟩ := p
            simp only at r0 r1 r2 r3 HBE
            have hJn : J < K := by omega
            have hJw : IntKind.i64.wrap ((I : Int) - 2) = (J : Int) := by rw [IntKind.wrap_i64]; omega
            have hJ1 : (I : Int) - 2 = (J : Int) := by omega
            have hJi : (J : Int) < (K : Int) := by omega
            have hJ0 : (0 : Int) ≤ (J : Int) := by omega
            have d0 : decide (1 < (I : Int)) = true := decide_eq_true (by omega)
            have d0' : decide (1 < I) = true := decide_eq_true (by omega)
            have hob : ob < w7.heap.size := hob'
            obtain ⟨gp, hgp⟩ : ∃ g, g = w7.heap.size := ⟨_, rfl⟩
            obtain ⟨w9, hw9⟩ : ∃ y, y = w7.alloc (.cells #[.string pk, .int .i64 ps, .slice LA pv.length lc, .bool pd] 88) := ⟨_, rfl⟩
            have HW9 := Lib.hid hw9
            have T9 := Lib.hid (show Turn (Item.all []) w (Item.all [Item.blk gp 88 #[.string pk, .int .i64 ps, .slice LA pv.length lc, .bool pd], Item.blk gv 88 #[.string vk, .int .i64 vs, .slice A4 vv.length c4, .bool vd], Item.row (.slice A4 vv.length c4) vv, Item.blk g2 26 #[.int .i64 5, .int .i64 vs, .int .i64 nn2, .string vk, .slice Av2 v2.length cv2, .bool dd2], gV (some ⟨ob, oo, none⟩) K c' hs]) w9 from by
              rw [hw9, hgp]
              exact T7.out.more (y := Item.blk w7.heap.size 88 #[.string pk, .int .i64 ps, .slice LA pv.length lc, .bool pd]) ((Below.refl _ _).alloc (Nat.le_refl _) _) (Blk.new _ _ _) (fun k hk => Nat.le_of_eq hk.symm))
            have BP := Lib.hid (show Below w7.heap.size w7 w9 from by rw [hw9]; exact (Below.refl _ _).alloc (Nat.le_refl _) _)
            clear z1 z2 z3 hhl hvi hp hob' hJ h0 hw9
            go_upto_region 19 with fail
            rw [← HW9.out]
            rw [← hgp]
            clear HW9 hgp r0 r1 r2 r3 hob x0 x1
            have x0 := Blk.cell (show Blk w9 gv _ #[.string vk, .int .i64 vs, .slice A4 vv.length c4, .bool vd] from T9.out.get (i := 1) rfl) 0
            have x1 := Blk.cell (show Blk w9 gv _ #[.string vk, .int .i64 vs, .slice A4 vv.length c4, .bool vd] from T9.out.get (i := 1) rfl) 1
            have r0 := Blk.cell (show Blk w9 gp _ #[.string pk, .int .i64 ps, .slice LA pv.length lc, .bool pd] from T9.out.get (i := 0) rfl) 0
            have r1 := Blk.cell (show Blk w9 gp _ #[.string pk, .int .i64 ps, .slice LA pv.length lc, .bool pd] from T9.out.get (i := 0) rfl) 1
            simp only [List.getElem?_toArray, List.getElem?_cons_zero, List.getElem?_cons_succ] at x0 x1 r0 r1
            obtain ⟨b1, hb1⟩ : ∃ b, Op.bytesLess vk.toList pk.toList = b := ⟨_, rfl⟩
            obtain ⟨b2, hb2⟩ : ∃ b, (vk.toList == pk.toList) = b := ⟨_, rfl⟩
            obtain ⟨b3, hb3⟩ : ∃ b, decide (vs ≤ ps) = b := ⟨_, rfl⟩
            rw [hb1, hb2, hb3] at HBE
            obtain ⟨B, hB⟩ : ∃ B, B = (b1 || (b2 && b3)) := ⟨_, rfl⟩
            rw [← hB] at HBE
            have HB := Lib.hid hB
            clear hB
            go_cut [139] from 121 to 139 (fun u wc => u = .bool B ∧ wc = w9)
            case first =>
              cases b1 with
              | true =>
                go_wp2_with fail
                go_meet
                exact ⟨by rw [HB.out]; rfl, rfl⟩
              | false =>
                cases b2 with
                | true =>
                  go_wp2_with fail
                  go_meet
                  exact ⟨by rw [HB.out]; rfl, rfl⟩
                | false =>
                  go_wp2_with fail
                  go_meet
                  exact ⟨by rw [HB.out]; rfl, rfl⟩
            case rest =>
              obtain ⟨rfl, hwc⟩ := hcut
              have hwc' := hwc.symm
              subst hwc'
              clear x0 x1 r0 r1 hb1 hb2 hb3 HB
              cases B with
              | true =>
                have HRE := Lib.hid (show RkPost l now first w (.returned (.tuple #[.slice none 0 0, .int .i64 0])) w9 from .inl ⟨HNOQ.out (HDNQ.out HBE.out), rfl, T9.out.free⟩)
                clear T7
                go_wp2
                go_ret2
                exact HRE.out
              | false =>
                have HBN := Lib.hid HBE.out
                have T7 := Lib.hid (T9.out.sub (List.sublist_cons_self _ _))
                have HRR0 := Lib.hid (And.intro HGD.out.1 (HGD.out.2.trans (HUPQ.out HBN.out)))
                have x0 := Blk.cell (show Blk w9 gv _ #[.string vk, .int .i64 vs, .slice A4 vv.length c4, .bool vd] from T7.out.get (i := 0) rfl) 0
                have x1 := Blk.cell (show Blk w9 gv _ #[.string vk, .int .i64 vs, .slice A4 vv.length c4, .bool vd] from T7.out.get (i := 0) rfl) 1
                have x2 := Blk.cell (show Blk w9 gv _ #[.string vk, .int .i64 vs, .slice A4 vv.length c4, .bool vd] from T7.out.get (i := 0) rfl) 2
                have x3 := Blk.cell (show Blk w9 gv _ #[.string vk, .int .i64 vs, .slice A4 vv.length c4, .bool vd] from T7.out.get (i := 0) rfl) 3
                simp only [List.getElem?_toArray, List.getElem?_cons_zero, List.getElem?_cons_succ] at x0 x1 x2 x3
                go_wp2_with (at_builtin; refine Stop.of ?_)
                have T8 := Lib.hid (T7.out.go ((Below.refl w9.heap.size w9).alloc (Nat.le_refl _) (.cells #[.string vk, .int .i64 vs, .slice A4 vv.length c4, .bool vd] 88)))
                refine ⟨wpList_append_any _ rfl rfl 0 Try.underlying42 info_ver rfl (by decide) (by decide) rfl (show World.ownsRow _ 0 88 4 (.slice (some ⟨ob, oo, none⟩) K c') K (hvCells hs) from Item.all_get (T8.out.get (i := 3) rfl) (List.mem_cons_self ..)) rfl (fresh_src (Blk.new w9 88 #[.string vk, .int .i64 vs, .slice A4 vv.length c4, .bool vd]) Try.underlying42 rfl (by decide) rfl) (by omega) (Nat.zero_le _) ?_⟩
                intro v' w8 ho hg hf
                obtain ⟨A8, c8, rfl, _, _⟩ := own_slice ho
                have T9 := Lib.hid (show Turn (Item.all []) w (Item.all [gV A8 (K + 1) c8 (hs ++ [⟨⟨vk, vs, vv, vd⟩, A4, c4⟩])]) w8 from by
                  have t := T8.out.step (i := 3) rfl (gV_app (t := ⟨⟨vk, vs, vv, vd⟩, A4, c4⟩) (T8.out.get (i := 3) rfl) ho hg hf)
                  have t2 := gV_joinL (t := ⟨⟨vk, vs, vv, vd⟩, A4, c4⟩) (t.by_ 4 rfl [3, 1, 0, 2] (by decide))
                  exact t2.sub (List.Sublist.cons_cons _ (List.nil_sublist _)))
                have HRR := Lib.hid (show RkIn w q st (K + 1) c8 A8 w8 from ⟨_, by
                  rw [List.map_append, HRR0.out.1, List.take_succ_eq_append_getElem HKQ.out, List.map_append, ← HXQ.out]
                  show _ ++ [_] = _ ++ [vOf _]
                  rw [← HVE5.out], HRR0.out.2, T9.out⟩)
                clear ho hg hf T7 T8 T9 x0 x1 x2 x3
                go_wp2
                exact ⟨⟨K + 1, I + 1, c8, A8, by go_num, rfl, hii, by omega, by omega, HRR⟩, by simp [intOf]; omega⟩
        · have hKN : K = N := by omega
          obtain ⟨hs, hhs, hgd, hT⟩ := hH.out
          have HRE := Lib.hid (show RkPost l now first w (.returned (.tuple #[.slice A' K c', .int .i64 (N + 2 : Nat)])) wr from .inr ⟨st, A', K, c', N + 2, hs, by
            rw [HCR.out, hgd, List.drop_of_length_le (by rw [HQL.out]; omega), hhs]
            rfl, by rw [← List.length_map (f := Hv.x), hhs, List.length_map, List.length_take, HQL.out]; omega, by rw [hKN], rfl, hT⟩)
          clear hhs hgd hT hH hKN
          go_wp2
          go_ret2
          exact HRE.out
end Go.Proofs.Ytmnpchncmbnddaa
/- The reference's Read, by contract. -/
namespace Go.Proofs.Ytmnpchncmbnddaa
open Go.RowKit

def RrPost (l : List En) (start : Int) (w : World) (e : Ending) (w' : World) : Prop :=
  ∃ (S : PS) (now : Int) (n : Nat) (A : Option Addr) (m c : Nat) (hs : List Hv), GrpEnd l start S now n ∧ RelRS (hs.map Hv.x) S ∧ m = hs.length ∧ e = .returned (.tuple #[.slice A m c, .int .i64 now, .int .i64 n]) ∧ Turn (Item.all []) w (Item.all [gV A m c hs]) w'
/-- What holds behind so many entries. -/
def RrIn (w : World) (l : List En) (start now : Int) (K m c' : Nat) (A' : Option Addr) (wr : World) : Prop :=
  ∃ (S : PS) (hs : List Hv), Grp l start S now K ∧ RelRS (hs.map Hv.x) S ∧ hs.length = m ∧ Turn (Item.all []) w (Item.all [gV A' m c' hs]) wr
theorem beq_dec (a b : Int) : (a == b) = decide (a = b) := by
  by_cases h : a = b
  · rw [h, beq_self_eq_true, decide_eq_true rfl]
  · rw [beq_false_of_ne h, decide_eq_false h]
theorem hvCells_app (a b : List Hv) : hvCells (a ++ b) = hvCells a ++ hvCells b := by simp [hvCells]
theorem hvRows_app (a b : List Hv) : hvRows (a ++ b) = hvRows a ++ hvRows b := by simp [hvRows]
theorem gV_two {a : Item} {w0 w : World} {A A1 A2 : Option Addr} {n n1 n2 c c1 c2 : Nat} {hs1 hs2 : List Hv} (T : Turn a w0 (Item.all [Item.rowT 88 4 (.slice A n c) n (hvCells (hs1 ++ hs2)), gV A1 n1 c1 hs1, gV A2 n2 c2 hs2]) w) : Turn a w0 (Item.all [gV A n c (hs1 ++ hs2)]) w := by
  have t1 := (T.by_ 3 rfl [1, 2, 0] (by decide)).sameR same_flat
  have t2 : Turn a w0 (Item.all (gV A2 n2 c2 hs2 :: (Item.rowT 88 4 (.slice A n c) n (hvCells (hs1 ++ hs2)) :: Item.rowT 88 4 (.slice A1 n1 c1) n1 (hvCells hs1) :: hvRows hs1))) w := t1.permR (by
    rw [List.cons_append]
    exact (List.perm_append_comm (l₁ := Item.rowT 88 4 (.slice A1 n1 c1) n1 (hvCells hs1) :: hvRows hs1) (l₂ := [gV A2 n2 c2 hs2, Item.rowT 88 4 (.slice A n c) n (hvCells (hs1 ++ hs2))])))
  have t3 := t2.sameR same_flat
  have t4 : Turn a w0 (Item.all ((Item.rowT 88 4 (.slice A n c) n (hvCells (hs1 ++ hs2)) :: hvRows (hs1 ++ hs2)) ++ [Item.rowT 88 4 (.slice A1 n1 c1) n1 (hvCells hs1), Item.rowT 88 4 (.slice A2 n2 c2) n2 (hvCells hs2)])) w := t3.permR (by
    rw [hvRows_app]
    generalize Item.rowT 88 4 (.slice A n c) n (hvCells (hs1 ++ hs2)) = r0
    generalize Item.rowT 88 4 (.slice A1 n1 c1) n1 (hvCells hs1) = r1
    generalize Item.rowT 88 4 (.slice A2 n2 c2) n2 (hvCells hs2) = r2
    show (r2 :: (hvRows hs2 ++ r0 :: r1 :: hvRows hs1)).Perm (r0 :: (hvRows hs1 ++ hvRows hs2 ++ [r1, r2]))
    have h1 : (hvRows hs2 ++ r0 :: r1 :: hvRows hs1).Perm (r0 :: r1 :: (hvRows hs1 ++ hvRows hs2)) := List.perm_append_comm
    have h2 : (r2 :: r0 :: r1 :: (hvRows hs1 ++ hvRows hs2)).Perm (r0 :: (hvRows hs1 ++ hvRows hs2 ++ [r1, r2])) := by
      refine (List.Perm.swap r0 r2 _).trans (List.Perm.cons _ ?_)
      refine (List.Perm.swap r1 r2 _).trans ?_
      exact (List.perm_append_comm (l₁ := [r1, r2]) (l₂ := hvRows hs1 ++ hvRows hs2))
    exact (List.Perm.cons _ h1).trans h2)
  exact (t4.sub (List.sublist_append_left _ _)).one
theorem gV_one {a : Item} {w0 w : World} {A A2 : Option Addr} {n n2 c c2 : Nat} {hs2 : List Hv} (T : Turn a w0 (Item.all [Item.rowT 88 4 (.slice A n c) n (hvCells hs2), gV A2 n2 c2 hs2]) w) : Turn a w0 (Item.all [gV A n c hs2]) w := by
  have t1 := (T.by_ 2 rfl [1, 0] (by decide)).sameR same_flat
  have t4 : Turn a w0 (Item.all ((Item.rowT 88 4 (.slice A n c) n (hvCells hs2) :: hvRows hs2) ++ [Item.rowT 88 4 (.slice A2 n2 c2) n2 (hvCells hs2)])) w := t1.permR (by
    generalize Item.rowT 88 4 (.slice A n c) n (hvCells hs2) = r0
    generalize Item.rowT 88 4 (.slice A2 n2 c2) n2 (hvCells hs2) = r2
    show (r2 :: (hvRows hs2 ++ [r0])).Perm (r0 :: (hvRows hs2 ++ [r2]))
    have h1 : (hvRows hs2 ++ [r0]).Perm (r0 :: hvRows hs2) := List.perm_append_comm
    refine (List.Perm.cons _ h1).trans ((List.Perm.swap r0 r2 _).trans (List.Perm.cons _ ?_))
    exact List.perm_append_comm (l₁ := [r2]))
  exact (t4.sub (List.sublist_append_left _ _)).one
theorem ckR_stamp {now st : Int} {first : Bool} {l : List En} {vs : List Vn} {N : Nat} (h : ckR now first l = some (vs, st, N)) : ∃ h0 : 0 < l.length, st = l[0].stamp ∧ N ≤ l.length := by
  cases l with
  | nil => cases h
  | cons o r =>
    refine ⟨Nat.zero_lt_succ _, ?_⟩
    rw [ckR_cons] at h
    split at h
    · cases h
    · split at h
      · cases h
      · split at h
        · cases h
        · split at h
          · cases h
          · rename_i e he
            split at h
            · split at h
              · cases h
              · injection h with h
                injection h with _ h
                injection h with b c
                have := (List.getElem?_eq_some_iff.1 he).1
                exact ⟨b.symm, by rw [List.length_cons]; omega⟩
            · cases h
set_option maxRecDepth 100000 in
set_option maxHeartbeats 12800000 in
theorem rread_any {w : World} {A : Option Addr} {c : Nat} {l : List En} {start : Int} (hS : kEn.Sl w w.heap.size A l) (hl : l.length ≤ 16777216) (hc : l.length ≤ c) (hks : ∀ e ∈ l, e.key.size ≤ 1099511627776 ∧ e.value.length ≤ 1099511627776) :
    Calls Try.prog 12 #[.slice A l.length c, .int .i64 start] w (RrPost l start w) := by
  have HS := Lib.hid hS
  have HKS := Lib.hid hks
  obtain ⟨N, hN⟩ : ∃ N, N = l.length := ⟨_, rfl⟩
  have HN := Lib.hid hN
  rw [← hN] at hl hc ⊢
  clear hS hks hN
  go_enter Try.func12, Try.ntmps12
  have T1 := Lib.hid (show RrIn w l start start 0 0 0 (some ⟨w.heap.size, 0, none⟩) (w.alloc (.cells #[] 88)) from ⟨[], [], .zero, RelRS.nil, rfl, (Turn.none_ (w := w)).more (y := gV (some ⟨w.heap.size, 0, none⟩) 0 0 []) ((Below.refl _ _).alloc (Nat.le_refl _) _) (show (Item.all [Item.rowT 88 4 (.slice (some ⟨w.heap.size, 0, none⟩) 0 0) 0 []]).P _ from ⟨fun i hi => by obtain rfl := List.mem_singleton.1 hi; exact row_new rfl (by decide), List.pairwise_singleton _ _⟩) (fun k hk => by
        obtain ⟨i, hi, hk⟩ := hk
        obtain rfl := List.mem_singleton.1 hi
        exact own_new hk)⟩)
  go_wp2
  go_loopw [8, 9, 7] (fun t u v wr => ∃ (now : Int) (K m c' : Nat) (A' : Option Addr), t = .int .i64 now ∧ u = .int .i64 K ∧ v = .slice A' m c' ∧ K ≤ N ∧ m ≤ K ∧ Hid (RrIn w l start now K m c' A' wr)) (fun _ u _ _ => N - (intOf u).toNat)
  case atStart => exact ⟨start, 0, 0, 0, _, rfl, rfl, rfl, Nat.zero_le _, Nat.le_refl _, T1⟩
  case round =>
    clear T1
    obtain ⟨now, K, m, c', A', rfl, rfl, rfl, hK, hmK, hH⟩ := hrel
    obtain ⟨S, hs, hgr, hre, hml, hT⟩ := hH.out
    have HG := Lib.hid hgr
    have HRE := Lib.hid hre
    have HML := Lib.hid hml
    have T2 := Lib.hid hT
    have HSD := Lib.hid (show kEn.Sl wr wr.heap.size (A.map (·.add (K * 6))) (l.drop K) from ((sl_drop (k := K) HS.out).below hT.free).more hT.free.size)
    have HDL := Lib.hid (show (l.drop K).length = N - K from by rw [List.length_drop, ← HN.out])
    have HKD := Lib.hid (show ∀ e ∈ l.drop K, e.key.size ≤ 1099511627776 ∧ e.value.length ≤ 1099511627776 from fun e he => HKS.out e (List.mem_of_mem_drop he))
    obtain ⟨n1, hn1⟩ : ∃ n, n = IntKind.i64.wrap (now + 1) := ⟨_, rfl⟩
    have HN1 := Lib.hid hn1
    have hw1 : IntKind.i64.wrap (now + 1) = n1 := hn1.symm
    have HRC := Lib.hid (rcommit_any (c := c - K) (now := now) HSD.out (by rw [HDL.out]; omega) HKD.out hw1)
    rw [HDL.out] at HRC
    have hKc : K ≤ c := by omega
    clear hH hgr hre hml hT hn1
    by_cases hcK : K < c
    rotate_left
    · have hNK : K = N := by omega
      have hcK2 : K = c := by omega
      subst hcK2
      subst hNK
      have HD0 := Lib.hid (show l.drop K = [] from List.drop_of_length_le (by rw [← HN.out]; exact Nat.le_refl _))
      have HEN := Lib.hid (show GrpEnd l start S now K from ⟨HG.out, by rw [HD0.out]; rfl⟩)
      have HRC0 := Lib.hid (rcommit_any (w := wr) (A := A) (c := 0) (l := []) (now := now) sl_nil (Nat.zero_le _) (fun e he => by cases he) hw1)
      rw [List.length_nil] at HRC0
      have hz : K - K = 0 := Nat.sub_self K
      go_wp2_with fail
      refine HRC0.out.mono ?_
      rintro e w1 (⟨hno, rfl, hb1⟩ | ⟨p, A1, n2, c1, hs1, hcom, _⟩)
      rotate_left
      · cases hcom
      obtain ⟨F, hF⟩ : ∃ F, F = decide (K = 0) := ⟨_, rfl⟩
      have hF1 : decide ((K : Int) = 0) = F := by
        rw [hF]
        by_cases h : K = 0
        · rw [decide_eq_true h, decide_eq_true (by omega)]
        · rw [decide_eq_false h, decide_eq_false (by omega)]
      have hF2 : ((K : Int) == 0) = F := by rw [← hF1]; exact beq_dec _ _
      have hF3 := hF.symm
      clear hF
      have HRK0 := Lib.hid (rcheckpoint_any (w := w1) (A := A) (c := 0) (l := []) (now := now) (first := F) sl_nil (Nat.zero_le _) (fun e he => by cases he))
      rw [List.length_nil] at HRK0
      have T3 := Lib.hid (T2.out.go hb1)
      clear hb1 hno HRC0 HRC T2
      go_wp2_with fail
      refine HRK0.out.mono ?_
      rintro e w2 (⟨hno2, rfl, hb2⟩ | ⟨st, A2, n2, c2, N2, hs2, hck, _⟩)
      rotate_left
      · cases hck
      have HR := Lib.hid (show RrPost l start w (.returned (.tuple #[.slice A' m c', .int .i64 now, .int .i64 K])) w2 from ⟨S, now, K, A', m, c', hs, HEN.out, HRE.out, HML.out.symm, rfl, T3.out.go hb2⟩)
      clear hb2 hno2 T3 HRK0
      go_wp2
      go_ret3
      exact HR.out
    go_wp2_with fail
    refine HRC.out.mono ?_
    rintro e w1 (⟨hno, rfl, hb1⟩ | ⟨p, A1, n2, c1, hs1, hcom, hnp, hhs1, rfl, t1⟩)
    · obtain ⟨F, hF⟩ : ∃ F, F = decide (K = 0) := ⟨_, rfl⟩
      have hF1 : decide ((K : Int) = 0) = F := by
        rw [hF]
        by_cases h : K = 0
        · rw [decide_eq_true h, decide_eq_true (by omega)]
        · rw [decide_eq_false h, decide_eq_false (by omega)]
      have hF2 : ((K : Int) == 0) = F := by rw [← hF1]; exact beq_dec _ _
      have HF := Lib.hid hF
      have hF3 := hF.symm
      clear hF
      have HRK := Lib.hid (rcheckpoint_any (w := w1) (c := c - K) (now := now) (first := F) ((HSD.out.below hb1).more hb1.size) (by rw [HDL.out]; omega) HKD.out)
      rw [HDL.out] at HRK
      have T3 := Lib.hid (T2.out.go hb1)
      have HNO := Lib.hid (show comG (IntKind.i64.wrap (now + 1)) [] (l.drop K) = none from by rw [← HN1.out]; exact hno)
      clear hb1 hno HRC T2
      go_wp2_with fail
      refine HRK.out.mono ?_
      rintro e w2 (⟨hno2, rfl, hb2⟩ | ⟨st, A2, n2, c2, N2, hs2, hck, hn2, hN2, rfl, t2⟩)
      · have HR := Lib.hid (show RrPost l start w (.returned (.tuple #[.slice A' m c', .int .i64 now, .int .i64 K])) w2 from ⟨S, now, K, A', m, c', hs, ⟨HG.out, grp_no HNO.out (by rw [← HF.out]; exact hno2)⟩, HRE.out, HML.out.symm, rfl, T3.out.go hb2⟩)
        clear hb2 hno2 T3 HRK
        go_wp2
        go_ret3
        exact HR.out
      · obtain ⟨h0, hst, hle⟩ := ckR_stamp hck
        have hKl : K < l.length := by rw [List.length_drop] at h0; omega
        have HST := Lib.hid (show st = (l[K]'hKl).stamp from by rw [hst]; simp)
        have hKN : K < N := by have := HN.out; omega
        rw [HDL.out] at hle
        have h2N : 0 < N2 := by omega
        have hn2N : n2 ≤ N2 := by omega
        have HN2 := Lib.hid hn2
        have HCK := Lib.hid (show ∃ S', grpF S now K (l.drop K) = some (S', st, N2) ∧ RelRS (hs2.map Hv.x) S' from grp_ck (by rw [← HF.out]; exact hck))
        have B3 := Lib.hid (T3.out.free)
        obtain ⟨bb, off, Av, cv, hA, hbb, z1, z2, s1, z3, z4, z5, z6, z7⟩ := en_at ((HS.out.below T3.out.free).below (t2.free.mono T3.out.free.size)) hKl
        subst hA
        have T4 := Lib.hid (show Turn (Item.all []) w (Item.all [Item.rowT 88 4 (.slice (some ⟨w2.heap.size, 0, none⟩) 0 0) 0 [], gV A2 n2 c2 hs2]) (w2.alloc (.cells #[] 88)) from ((T3.out.join t2).sub (List.sublist_cons_self _ _)).more (y := Item.rowT 88 4 (.slice (some ⟨w2.heap.size, 0, none⟩) 0 0) 0 []) ((Below.refl _ _).alloc (Nat.le_refl _) _) (row_new rfl (by decide)) (fun k hk => own_new hk))
        obtain ⟨w3, hw3⟩ : ∃ y, y = w2.alloc (.cells #[] 88) := ⟨_, rfl⟩
        have HW3 := Lib.hid hw3
        rw [← hw3] at T4
        clear z1 z2 z3 z4 z5 z6 z7 hck hn2 hN2 t2 hst h0 HRK T3 s1 hw3 hbb
        go_wp2_with (at_builtin; refine Stop.of ?_)
        rw [← HW3.out]
        refine ⟨wpList_append_any _ rfl rfl 0 Try.underlying43 info_ver rfl (by decide) (by decide) rfl (T4.out.get (i := 0) rfl) rfl (Reads.src (Reads.of_own (Item.all_get (T4.out.get (i := 1) rfl) (List.mem_cons_self ..))) Try.underlying42 c2 (hv_ones hs2)) (by omega) (Nat.zero_le _) ?_⟩
        intro v' w4 ho hg hf
        rw [Nat.zero_add, List.nil_append] at ho
        have t5 := T4.out.step (i := 0) rfl (Turn.rowT (v := .slice (some ⟨w2.heap.size, 0, none⟩) 0 0) (n := 0) (xs := []) ho hg hf)
        obtain ⟨A5, c5, rfl, _, _⟩ := own_slice ho
        have T5 := Lib.hid (gV_one t5)
        obtain ⟨bb', off', Av', cv', hA, hbb', z1, z2, s2, z3, z4, z5, z6, z7⟩ := en_at (HS.out.below T5.out.free) hKl
        injection hA with hA
        injection hA with e1 e2
        subst e1; subst e2
        rw [← HST.out] at s2
        clear z1 z2 z3 z4 z5 z6 z7
        have HRN := Lib.hid (show RrIn w l start st (K + N2) n2 c5 A5 w4 from by
          obtain ⟨S', h1, h2⟩ := HCK.out
          exact ⟨S', hs2, .step HG.out h1, h2, HN2.out.symm, T5.out⟩)
        clear ho hg hf t5 T5 T4 HCK HW3
        go_wp2
        exact ⟨⟨st, K + N2, n2, c5, A5, rfl, by go_num, rfl, by omega, by omega, HRN⟩, by simp [intOf]; omega⟩
    · obtain ⟨hgc, hrc, hpl⟩ := grp_com HG.out HRE.out (by rw [← HN1.out]; exact hcom)
      rw [← HN1.out] at hgc hrc
      rw [HDL.out, ← hnp] at hpl
      rw [← hnp] at hgc
      have HGC := Lib.hid (And.intro hgc hrc)
      have HH1 := Lib.hid hhs1
      have HNP := Lib.hid hnp
      obtain ⟨N2, hN2⟩ : ∃ x, x = n2 + 1 := ⟨_, rfl⟩
      have HN2 := Lib.hid hN2
      have h2N : 0 < N2 := by omega
      have hn2N : n2 ≤ N2 := by omega
      have hNN : K + N2 ≤ N := by omega
      rw [← hN2] at HGC ⊢
      have T3 := Lib.hid (T2.out.join t1)
      have T4 := Lib.hid (show Turn (Item.all []) w (Item.all [Item.rowT 88 4 (.slice (some ⟨w1.heap.size, 0, none⟩) 0 0) 0 [], gV A' m c' hs, gV A1 n2 c1 hs1]) (w1.alloc (.cells #[] 88)) from T3.out.more (y := Item.rowT 88 4 (.slice (some ⟨w1.heap.size, 0, none⟩) 0 0) 0 []) ((Below.refl _ _).alloc (Nat.le_refl _) _) (row_new rfl (by decide)) (fun k hk => own_new hk))
      obtain ⟨w3, hw3⟩ : ∃ y, y = w1.alloc (.cells #[] 88) := ⟨_, rfl⟩
      have HW3 := Lib.hid hw3
      rw [← hw3] at T4
      clear hcom hnp hhs1 t1 hgc hrc hpl HRC T2 T3 hw3 hN2
      go_wp2_with (at_builtin; refine Stop.of ?_)
      rw [← HW3.out]
      refine ⟨wpList_append_any _ rfl rfl 0 Try.underlying43 info_ver rfl (by decide) (by decide) rfl (T4.out.get (i := 0) rfl) rfl (Reads.src (Reads.of_own (Item.all_get (T4.out.get (i := 1) rfl) (List.mem_cons_self ..))) Try.underlying43 c' (hv_ones hs)) (by omega) (Nat.zero_le _) ?_⟩
      intro v' w4 ho hg hf
      rw [Nat.zero_add, List.nil_append] at ho
      have T5 := Lib.hid (T4.out.step (i := 0) rfl (Turn.rowT (v := .slice (some ⟨w1.heap.size, 0, none⟩) 0 0) (n := 0) (xs := []) ho hg hf))
      obtain ⟨A5, c5, rfl, _, _⟩ := own_slice ho
      clear ho hg hf T4 HW3
      go_wp2_with (at_builtin; refine Stop.of ?_)
      refine ⟨wpList_append_any _ rfl rfl 0 Try.underlying43 info_ver rfl (by decide) (by decide) rfl (T5.out.get (i := 0) rfl) rfl (Reads.src (Reads.of_own (Item.all_get (T5.out.get (i := 2) rfl) (List.mem_cons_self ..))) Try.underlying42 c1 (hv_ones hs1)) (by omega) (Nat.zero_le _) ?_⟩
      intro v' w5 ho hg hf
      rw [← hvCells_app] at ho
      have t6 := T5.out.step (i := 0) rfl (Turn.rowT (v := .slice A5 m c5) (n := m) (xs := hvCells hs) ho hg hf)
      obtain ⟨A6, c6, rfl, _, _⟩ := own_slice ho
      have HRN := Lib.hid (show RrIn w l start n1 (K + N2) (m + n2) c6 A6 w5 from
        ⟨_, hs ++ hs1, .step HG.out HGC.out.1, by rw [List.map_append, HH1.out]; exact HGC.out.2, by rw [List.length_append, HML.out, show hs1.length = n2 from by rw [← List.length_map (f := Hv.x), HH1.out, List.length_map, ← HNP.out]], gV_two t6⟩)
      clear ho hg hf t6 T5
      go_wp2
      exact ⟨⟨n1, K + N2, m + n2, c6, A6, rfl, by go_num, rfl, by omega, by omega, HRN⟩, by simp [intOf]; omega⟩
end Go.Proofs.Ytmnpchncmbnddaa
