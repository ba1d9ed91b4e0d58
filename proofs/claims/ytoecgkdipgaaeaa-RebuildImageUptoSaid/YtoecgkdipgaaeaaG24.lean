/- Contracts and plain laws that this claim leans on, laid together: Ape. -/
import Derived.Test.YtoecgkdipgaaeaaG23
set_option linter.all false
set_option linter.unusedVariables false
set_option linter.unusedSimpArgs false
set_option linter.unnecessarySimpa false
/- Laws of layer 20: rows of entries that come from others; filled; checkpoints read. -/
namespace Go.Proofs.Ytoecgkdipgaaeaa
open Go.RowKit

theorem told_ones (ts : List Told) : ∀ u ∈ toldCells ts, u.oneCell' = true := by
  intro u hu
  unfold toldCells at hu
  obtain ⟨t, _, h⟩ := List.mem_flatMap.1 hu
  simp only [En.cells, List.mem_cons, List.not_mem_nil, or_false] at h
  rcases h with rfl | rfl | rfl | rfl | rfl | rfl <;> rfl
def Told.okAt (w : World) (B : Nat) (t : Told) : Prop := t.x.ints ∧ BReads w B t.A t.x.value ∧ t.x.value.length ≤ t.c
theorem toldCells_cons (t : Told) (ts : List Told) : toldCells (t :: ts) = (t.x.cells t.A t.c).toList ++ toldCells ts := by unfold toldCells; rw [List.flatMap_cons]
theorem toldCells_append (ts us : List Told) : toldCells (ts ++ us) = toldCells ts ++ toldCells us := by unfold toldCells; rw [List.flatMap_append]
theorem sl_tolds {w : World} {B : Nat} : ∀ {l : List En} {A : Option Addr}, kEn.Sl w B A l → ∃ ts : List Told, ts.map Told.x = l ∧ Reads w B 6 A l.length (toldCells ts) ∧ ∀ t ∈ ts, t.okAt w B
  | [], A, _ => ⟨[], rfl, ⟨rfl, fun h => absurd h (Nat.lt_irrefl 0)⟩, fun _ h => (by cases h)⟩
  | x :: r, A, h => by
    obtain ⟨b, off, rfl, hb, hr⟩ := h (Nat.zero_lt_succ _)
    obtain ⟨cs, hR, hc⟩ := hr 0 x rfl
    obtain ⟨A', c', rfl, h1, h2, h3⟩ := en_R hR
    have hd := sl_drop (k := 1) h
    rw [show 1 * kEn.size = 6 from rfl, Option.map_some, addr_add, List.drop_one, List.tail_cons] at hd
    obtain ⟨ts, e1, e2, e3⟩ := sl_tolds (l := r) hd
    have hlen : (x.cells A' c').toList.length = 6 := rfl
    refine ⟨⟨x, A', c'⟩ :: ts, by rw [List.map_cons, e1], ⟨?_, fun _ => ⟨b, off, rfl, hb, fun j u hu => ?_⟩⟩, fun t ht => ?_⟩
    · rw [toldCells_cons, List.length_append, e2.1, List.length_cons, hlen]; omega
    · rw [toldCells_cons] at hu
      by_cases hj : j < 6
      · rw [List.getElem?_append_left (by rw [hlen]; exact hj)] at hu
        have := hc j u hu
        rwa [Nat.zero_mul, Nat.add_zero] at this
      · rw [List.getElem?_append_right (by rw [hlen]; omega), hlen] at hu
        have hj2 := (List.getElem?_eq_some_iff.1 hu).1
        rw [e2.1] at hj2
        obtain ⟨b', off', hA', _, hc'⟩ := e2.2 (by omega)
        injection hA' with hA'
        injection hA' with a1 a2
        subst a1; subst a2
        have := hc' _ u hu
        rwa [show off + 6 + (j - 6) = off + j from by omega] at this
    · rcases List.mem_cons.1 ht with rfl | ht
      · exact ⟨h1, h2, h3⟩
      · exact e3 t ht
theorem Told.okAt.go {w w' : World} {B B' : Nat} {t : Told} (h : t.okAt w B) (hb : Below B w w') (hB : B ≤ B') : t.okAt w' B' := ⟨h.1, (h.2.1.below hb).more hB, h.2.2⟩
/-- The rows that a list of entries was told with. -/
theorem rows_ok {w : World} {ts : List Told} (h : ∀ i ∈ toldRows ts, i.P w) (hm : ∀ e ∈ ts.map Told.x, e.may) : ∀ t ∈ ts, t.okAt w w.heap.size := fun t ht => by
  have ho : BOwns w 0 (.slice t.A t.x.value.length t.c) t.x.value := h _ (List.mem_map.2 ⟨t, ht, rfl⟩)
  obtain ⟨A1, c1, e, hc, hv⟩ := BOwns.slice ho
  injection e with e1 _ e2
  subst e1; subst e2
  exact ⟨may_ints (hm _ (List.mem_map.2 ⟨t, ht, rfl⟩)), hv, hc⟩
/-! filled -/
def fildL (l : List Vn) (top : Int) : PS := tryL [] (l.filter fun v => decide (v.stamp ≤ top))
theorem fildL_ok (l : List Vn) (top : Int) : PsOk (fildL l top) top ∧ totP (fildL l top) ≤ l.length := by
  refine ⟨PsOk.nil.tries fun v hv => of_decide_eq_true (List.mem_filter.1 hv).2, ?_⟩
  have := totP_tries (l := l.filter fun v => decide (v.stamp ≤ top)) (S := []) List.Pairwise.nil
  have h2 := List.length_filter_le (fun v : Vn => decide (v.stamp ≤ top)) l
  have e : totP [] = 0 := rfl
  unfold fildL
  omega
theorem fildL_yes {l : List Vn} {top : Int} {K : Nat} (h : K < l.length) {x : Vn} (hx : x = l[K]) (hs : x.stamp ≤ top) : fildL (l.take (K + 1)) top = tryP (fildL (l.take K) top) x := by
  subst hx
  unfold fildL
  rw [List.take_succ_eq_append_getElem h, List.filter_append, List.filter_cons_of_pos (by simpa using hs)]
  unfold tryL
  rw [List.foldl_append]; rfl
theorem fildL_no {l : List Vn} {top : Int} {K : Nat} (h : K < l.length) {x : Vn} (hx : x = l[K]) (hs : ¬ x.stamp ≤ top) : fildL (l.take (K + 1)) top = fildL (l.take K) top := by
  subst hx
  unfold fildL
  rw [List.take_succ_eq_append_getElem h, List.filter_append, List.filter_cons_of_neg (by simpa using hs)]
  simp
def FildPost (l : List Vn) (top : Int) (w : World) (e : Ending) (w' : World) : Prop :=
  ∃ s : St, e = .returned (.pointer (some ⟨s.gs, 0, none⟩)) ∧ s.ok l.length ∧ s.view = fildL l top ∧ Turn (Item.all []) w (Item.all [s.item]) w'
set_option maxRecDepth 100000 in
set_option maxHeartbeats 6400000 in
theorem filled_any {w : World} {B : Nat} {A : Option Addr} {c : Nat} {l : List Vn} {top : Int} (hS : kVn.Sl w B A l) (hB : B ≤ w.heap.size) (hl : l.length ≤ 16777216) (hks : ∀ v ∈ l, v.key.size ≤ maxLen ∧ v.value.length ≤ 140737488355328) :
    Calls Try.prog 24 #[.slice A l.length c, .int .i64 top] w (FildPost l top w) := by
  have HS := Lib.hid hS
  have HKS := Lib.hid hks
  obtain ⟨N, hN⟩ : ∃ N, N = l.length := ⟨_, rfl⟩
  have HN := Lib.hid hN
  rw [← hN] at hl ⊢
  clear hS hks hN
  go_enter Try.func24, Try.ntmps24
  go_wp2_with fail
  refine snew_any.mono ?_
  rintro e w1 ⟨gs, gm, rfl, hok, t1⟩
  have T1 := Lib.hid (show ∃ s : St, s.gs = gs ∧ s.ok 0 ∧ s.view = fildL (l.take 0) top ∧ Turn (Item.all []) w (Item.all [s.item]) w1 from ⟨_, rfl, hok, by rw [List.take_zero]; rfl, t1.one⟩)
  clear hok t1
  go_wp2
  go_loopw [11] (fun t wr => ∃ K : Nat, t = .int .i64 K ∧ K ≤ N ∧ Hid (∃ s : St, s.gs = gs ∧ s.ok K ∧ s.view = fildL (l.take K) top ∧ Turn (Item.all []) w (Item.all [s.item]) wr)) (fun t _ => N - (intOf t).toNat)
  case atStart => exact ⟨0, rfl, Nat.zero_le _, T1⟩
  case round =>
    clear T1
    obtain ⟨K, rfl, hK, hH⟩ := hrel
    by_cases hlt : (K : Int) < (N : Int)
    · have hKi : K + 1 ≤ N := by omega
      have hKl : K < l.length := by have := HN.out; omega
      obtain ⟨s, hg, hok, hload, hT⟩ := hH.out
      have hbw := hT.free
      obtain ⟨bb, off, Av, cv, hA, hbb, hints, s0, s1, s2, s3, hval, hvc⟩ := vn_at (HS.out.keep (fun p hp => hbw.cell (Nat.lt_of_lt_of_le hp hB))) hKl
      subst hA
      obtain ⟨x, hx⟩ : ∃ x, x = l[K] := ⟨_, rfl⟩
      have hxm : x ∈ l := by rw [hx]; exact List.getElem_mem _
      have hxb := HKS.out x hxm
      rw [← hx] at s0 s1 s2 s3 hval hvc
      have HY := Lib.hid (fildL_yes (top := top) hKl hx)
      have HN0 := Lib.hid (fildL_no (top := top) hKl hx)
      have HL := Lib.hid hload
      have HG := Lib.hid (And.intro hg hok)
      obtain ⟨key, st, v, dd⟩ := x
      simp only at s0 s1 s2 s3 hval hvc hxb
      have hb1 := (Below.refl wr.heap.size wr).alloc (Nat.le_refl _) (.cells #[.string key, .int .i64 st, .slice Av v.length cv, .bool dd] 33)
      obtain ⟨w2, hw2⟩ : ∃ x, x = wr.alloc (.cells #[.string key, .int .i64 st, .slice Av v.length cv, .bool dd] 33) := ⟨_, rfl⟩
      have HW2 := Lib.hid hw2
      have T2 := Lib.hid (show Turn (Item.all []) w (Item.all [s.item, Item.blk wr.heap.size 33 #[.string key, .int .i64 st, .slice Av v.length cv, .bool dd]]) w2 from by
        rw [hw2]
        exact (hT.more (y := Item.blk wr.heap.size 33 #[.string key, .int .i64 st, .slice Av v.length cv, .bool dd]) hb1 (Blk.new _ _ _) (fun k hk => Nat.le_of_eq hk.symm)).by_ 2 rfl [1, 0] (by decide))
      have HAP := Lib.hid (apply_turn (i := 0) T2.out rfl hok (by omega) (A := Av) (c := cv) ⟨key, st, v, dd⟩ (by rw [hw2]; exact (((hval.more (Nat.le_trans hB hbw.size)).below hb1).more hb1.size)) hxb.1 hxb.2)
      rw [hg] at HAP
      clear hx hxm hxb hval hvc hints hb1 hT hH hload hok hbw hbb hg hKl hw2
      go_upto_region 5 with fail
      rw [← HW2.out]
      obtain ⟨g2, hg2⟩ : ∃ g, g = wr.heap.size := ⟨_, rfl⟩
      rw [← hg2] at T2 HAP ⊢
      clear HW2 hg2 s0 s1 s2 s3
      have q0 := Blk.cell (show Blk w2 g2 _ #[.string key, .int .i64 st, .slice Av v.length cv, .bool dd] from T2.out.get (i := 1) rfl) 0
      have q1 := Blk.cell (show Blk w2 g2 _ #[.string key, .int .i64 st, .slice Av v.length cv, .bool dd] from T2.out.get (i := 1) rfl) 1
      have q2 := Blk.cell (show Blk w2 g2 _ #[.string key, .int .i64 st, .slice Av v.length cv, .bool dd] from T2.out.get (i := 1) rfl) 2
      have q3 := Blk.cell (show Blk w2 g2 _ #[.string key, .int .i64 st, .slice Av v.length cv, .bool dd] from T2.out.get (i := 1) rfl) 3
      simp only [List.getElem?_toArray, List.getElem?_cons_zero, List.getElem?_cons_succ] at q0 q1 q2 q3
      by_cases hs : st ≤ top
      · have HF := Lib.hid (HY.out hs)
        have d1 : decide (st ≤ top) = true := decide_eq_true hs
        clear hs
        go_wp2_with fail
        refine HAP.out.mono ?_
        rintro e w3 ⟨rfl, s', hg', _, hok', hv', t⟩
        have HR := Lib.hid (show ∃ s : St, s.gs = gs ∧ s.ok (K + 1) ∧ s.view = fildL (l.take (K + 1)) top ∧ Turn (Item.all []) w (Item.all [s.item]) w3 from ⟨s', hg', hok', by rw [hv', HF.out, HL.out], t.sub (List.Sublist.cons_cons _ (List.nil_sublist _))⟩)
        clear hg' hok' hv' t HAP T2
        go_wp2
        exact ⟨⟨K + 1, by go_num, hKi, HR⟩, by simp [intOf]; omega⟩
      · have HF := Lib.hid (HN0.out hs)
        have HR := Lib.hid (show ∃ s : St, s.gs = gs ∧ s.ok (K + 1) ∧ s.view = fildL (l.take (K + 1)) top ∧ Turn (Item.all []) w (Item.all [s.item]) w2 from ⟨s, HG.out.1, okMore HG.out.2 (by omega), by rw [HF.out, HL.out], T2.out.sub (List.Sublist.cons_cons _ (List.nil_sublist _))⟩)
        have d1 : decide (st ≤ top) = false := decide_eq_false hs
        clear hs HAP T2
        go_wp2
        exact ⟨⟨K + 1, by go_num, hKi, HR⟩, by simp [intOf]; omega⟩
    · obtain rfl : K = N := by omega
      obtain ⟨s, hg, hok, hload, hT⟩ := hH.out
      rw [List.take_of_length_le (by rw [← HN.out]; exact Nat.le_refl _)] at hload
      have HR := Lib.hid (show FildPost l top w (.returned (.pointer (some ⟨gs, 0, none⟩))) wr from ⟨s, by rw [hg], by rw [← HN.out]; exact hok, hload, hT⟩)
      clear hg hok hload hT hH
      go_wp2
      go_ret
      exact HR.out
/-! Checkpoints read. -/
theorem imgF_may {S : PS} {top st : Int} (h : PsOk S top) (h0 : 0 ≤ st) (h1 : st ≤ 4611686018427387904) (hl : totP S ≤ 2147483647) : ∀ e ∈ imgF S st, e.may := fun e he => by
  have hn : ((versF S).length : Int) ≤ 2147483647 := by rw [totP_vers]; omega
  unfold imgF at he
  rcases List.mem_cons.1 he with rfl | he
  · rw [may_m (by decide)]; exact ⟨rfl, h0, h1, Int.natCast_nonneg _, hn, rfl, rfl⟩
  · rcases List.mem_append.1 he with he | he
    · obtain ⟨v, hv, rfl⟩ := List.mem_map.1 he
      have := (h.vn hv).1
      unfold En.chk at this
      by_cases hm : v.ofVersion.may
      · exact hm
      · rw [if_neg hm] at this; cases this
    · rw [List.mem_singleton.1 he, may_m (by decide)]; exact ⟨rfl, h0, h1, Int.natCast_nonneg _, hn, rfl, rfl⟩
theorem grpF_img {S S0 : PS} {st now count : Int} (h : PsOk S st) (h0 : 0 ≤ st) (h1 : st ≤ 4611686018427387904) (hl : totP S ≤ 2147483647) (hc : ¬ (st ≠ now ∧ (0 < count ∨ st < now))) : grpF S0 now count (imgF S st) = some (S, st, totP S + 2) := by
  have := ckF_img h h0 h1 hl hc
  unfold imgF at this ⊢
  rw [grpF_cons, if_pos rfl]
  exact this
theorem img_end {S : PS} {st start : Int} (h : PsOk S st) (h0 : 0 ≤ st) (h1 : st ≤ 4611686018427387904) (hl : totP S ≤ 2147483647) (hs : start ≤ st) : GrpEnd (imgF S st) start S st (imgF S st).length := by
  have h3 := Grp.step (.zero (l := imgF S st) (start := start)) (by rw [List.drop_zero]; exact grpF_img h h0 h1 hl (by omega))
  rw [Nat.zero_add, ← imgF_len st] at h3
  exact ⟨h3, by rw [List.drop_of_length_le (Nat.le_refl _)]; rfl⟩
theorem img_behind {ahead : List En} {S0 S : PS} {now start : Int} {n : Nat} (g : Grp ahead start S0 now n) (h : PsOk S now) (h0 : 0 ≤ now) (h1 : now ≤ 4611686018427387904) (hl : totP S ≤ 2147483647) : GrpEnd (ahead.take n ++ imgF S now) start S now (ahead.take n ++ imgF S now).length := by
  have hn := g.le
  have e1 : (ahead.take n).length = n := by rw [List.length_take]; omega
  have h2 : Grp (ahead.take n ++ imgF S now) start S0 now n := (g.loc (Nat.le_refl _)).app _
  have h3 := Grp.step h2 (by rw [List.drop_append_of_le_length (by rw [e1]; exact Nat.le_refl _), List.drop_of_length_le (by rw [e1]; exact Nat.le_refl _), List.nil_append]; exact grpF_img h h0 h1 hl (by omega))
  have e2 : (ahead.take n ++ imgF S now).length = n + (totP S + 2) := by rw [List.length_append, e1, imgF_len]
  rw [← e2] at h3
  exact ⟨h3, by rw [List.drop_of_length_le (Nat.le_refl _)]; rfl⟩
end Go.Proofs.Ytoecgkdipgaaeaa
