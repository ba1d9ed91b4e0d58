/- Contracts and plain laws that this claim leans on, laid together: Cka. -/
import Derived.Test.YtmnpchncmbnddaaGreatG17
set_option linter.all false
set_option linter.unusedVariables false
set_option linter.unusedSimpArgs false
set_option linter.unnecessarySimpa false
/- Rebuild: a checkpoint group read, the arm whose stamp is the building's. -/
namespace Go.Proofs.YtmnpchncmbnddaaGreat
open Go.RowKit

set_option maxRecDepth 100000 in
set_option maxHeartbeats 12800000 in
theorem ckA_any {w0 w : World} {s : St} {gb : Nat} {now count : Int} (T : Turn (Item.all []) w0 (Item.all [s.item, Item.bld gb s.gs now count]) w) {A : Option Addr} {c : Nat} {l : List En} (hS : kEn.Sl w0 w0.heap.size A l) (h0 : 0 < l.length) (h4 : (l[0]).kind = 4) (hl : l.length ≤ 16777216) (hc : l.length ≤ c) (hks : ∀ e ∈ l, e.key.size ≤ 1099511627776 ∧ e.value.length ≤ 1099511627776) (hok : (l[0]).chk = 0) (hcn : (l[0]).count + 2 ≤ (l.length : Int)) (e1 : (l[0]).stamp = now) :
    Calls Tryz.prog 105 #[.pointer (some ⟨gb, 0, none⟩), .slice A l.length c] w (CkPost w0 s gb now count l) := by
  have HS := Lib.hid hS
  have HKS := Lib.hid hks
  obtain ⟨gs, hgs⟩ : ∃ g, g = s.gs := ⟨_, rfl⟩
  have HGS := Lib.hid hgs
  obtain ⟨bb, off, Av, cv, hA, hbb, hints, s0, s1, s2, s3, s4, s5, hval⟩ := en_at (hS.below T.free) h0
  subst hA
  obtain ⟨r, hr⟩ : ∃ r, l = l[0] :: r := ⟨l.drop 1, by rw [← List.drop_eq_getElem_cons h0]; rfl⟩
  obtain ⟨x, hx⟩ : ∃ x, x = l[0] := ⟨_, rfl⟩
  have hxm : x ∈ l := by rw [hx]; exact List.getElem_mem _
  have hxb := hks x hxm
  rw [← hx] at s0 s1 s2 s3 s4 s5 hval hints h4 hr hok hcn e1
  obtain ⟨k, st, nn, key, v, dd⟩ := x
  simp only [Nat.zero_mul, Nat.add_zero] at s0 s1 s2 s3 s4 s5 hval hxb h4 hcn e1
  subst h4
  obtain ⟨M, hM⟩ : ∃ M, M = l.length := ⟨_, rfl⟩
  have HM := Lib.hid hM
  rw [← hM] at hl h0 hc hcn ⊢
  have HL := Lib.hid hr
  rw [hgs.symm] at T
  have HT := Lib.hid T
  have hxb1 := hxb.1
  have hxb2 := hxb.2
  have HI := Lib.hid hints
  have HCK := Lib.hid (fun (W : World) => check_any (w := W) (A := Av) (c := cv) ⟨4, st, nn, key, v, dd⟩ (by simp only; omega) (by simp only; omega))
  obtain ⟨R, hR⟩ : ∃ R, R = En.chk ⟨4, st, nn, key, v, dd⟩ := ⟨_, rfl⟩
  rw [← hR] at HCK
  have HR := Lib.hid hR
  have hbr : bb < w.heap.size := Nat.lt_of_lt_of_le hbb T.free.size
  have hMr : M = r.length + 1 := by rw [hM, hr]; rfl
  have HMR := Lib.hid hMr
  have BA := Lib.hid ((Below.refl w.heap.size w).alloc (Nat.le_refl _) (.cells #[.int .i64 4, .int .i64 st, .int .i64 nn, .string key, .slice Av v.length cv, .bool dd] 105))
  have KE := Lib.hid (Blk.new w 105 #[.int .i64 4, .int .i64 st, .int .i64 nn, .string key, .slice Av v.length cv, .bool dd])
  have E1 := Lib.hid e1
  clear e1
  clear hS hks T hx hxm hxb hints hr hM hgs hbb hR hval hMr
  go_enter Tryz.func105, Tryz.ntmps105
  go_wp2_with fail
  refine (HCK.out _).mono ?_
  rintro e w2 ⟨rfl, hb2⟩
  have KE2 := Lib.hid (KE.out.below' hb2)
  have T2 := Lib.hid (HT.out.go (BA.out.trans (hb2.mono BA.out.size)))
  have q0 := KE2.out.cell 0
  have q1 := KE2.out.cell 1
  have q2 := KE2.out.cell 2
  simp at q0 q1 q2
  have T3 := Lib.hid ((((HT.out.more (y := Item.blk w.heap.size 105 #[.int .i64 4, .int .i64 st, .int .i64 nn, .string key, .slice Av v.length cv, .bool dd]) ((Below.refl _ _).alloc (Nat.le_refl _) (.cells #[.int .i64 4, .int .i64 st, .int .i64 nn, .string key, .slice Av v.length cv, .bool dd] 105)) KE.out (fun k hk => Nat.le_of_eq hk.symm)).by_ 3 rfl [1, 2, 0] (by decide)).go hb2))
  clear hb2 HCK BA KE s0 s1 s2 s3 s4 s5
  have HNO := Lib.hid (fun (W : World) (h : ckF now count l = none) (hb : Below w2.heap.size w2 W) => (show CkPost w0 s gb now count l (.returned (.int .i64 0)) W from .inl ⟨h, rfl, by rw [← HGS.out]; exact T2.out.go hb⟩))
  have HNT := Lib.hid (fun (W : World) (h : ckF now count l = none) (t : Turn (Item.all []) w0 (Item.all [s.item, Item.bld gb gs now count]) W) => (show CkPost w0 s gb now count l (.returned (.int .i64 0)) W from .inl ⟨h, rfl, by rw [← HGS.out]; exact t⟩))
  have hr0 : R = 0 := HR.out.trans hok
  have HR0 := Lib.hid (HR.out.symm.trans hr0)
  subst hr0
  have hmay : 0 ≤ st ∧ st ≤ 4611686018427387904 ∧ 0 ≤ nn ∧ nn ≤ 2147483647 := by
    have h := HR0.out
    unfold En.chk at h
    by_cases hm : En.may ⟨4, st, nn, key, v, dd⟩
    · unfold En.may at hm
      simp at hm
      exact ⟨hm.2.1, hm.2.2.1, hm.2.2.2.1, hm.2.2.2.2.1⟩
    · rw [if_neg hm] at h; cases h
  obtain ⟨m, rfl⟩ : ∃ m : Nat, nn = (m : Int) := ⟨nn.toNat, by omega⟩
  have hm : m + 2 ≤ M := by omega
  have d1 : decide ((M : Int) - 2 < (m : Int)) = false := decide_eq_false (by omega)
  have HP1 := Lib.hid (show ¬ ((⟨4, st, (m : Int), key, v, dd⟩ : En).chk ≠ 0 ∨ (r.length : Int) - 1 < (m : Int)) from by
    rintro (h | h)
    · exact h HR0.out
    · have := HMR.out; omega)
  have y1 : w2.cell? ⟨gb, 1, none⟩ = some (.int .i64 now) := Blk.cell (show Blk _ gb _ (bldCells gs now count) from T3.out.get (i := 1) rfl) 1
  have y2 : w2.cell? ⟨gb, 2, none⟩ = some (.int .i64 count) := Blk.cell (show Blk _ gb _ (bldCells gs now count) from T3.out.get (i := 1) rfl) 2
  have e1 := E1.out
  clear E1
  subst e1
  have b1 : (st == st) = true := beq_self_eq_true _
  have b1n : (st != st) = false := by unfold bne; rw [b1]; rfl
  have HP2 := Lib.hid (show ¬ (st ≠ st ∧ (0 < count ∨ st < st)) from fun h => h.1 rfl)
  clear b1 b1n
  go_upto_region 4 with fail
  go_quiet (fail)
  have T4 := Lib.hid (T3.out.go (below_drewN (Below.refl _ _) nq))
  have HNO3 := Lib.hid (fun (W : World) (h : ckF st count l = none) (hb : Below (w2.drewN nq).heap.size (w2.drewN nq) W) => HNO.out W h ((below_drewN (Below.refl _ _) nq).trans hb))
  obtain ⟨w3, hw3⟩ : ∃ x, x = w2.drewN nq := ⟨_, rfl⟩
  rw [← hw3] at T4 HNO3 ⊢
  clear q0 q1 q2 y1 y2 hw3 T3 T2 HNO
  obtain ⟨g5, hg5⟩ : ∃ g, g = w.heap.size := ⟨_, rfl⟩
  rw [← hg5] at T4 ⊢
  clear hg5
  have q1 := Blk.cell (show Blk w3 g5 _ #[.int .i64 4, .int .i64 st, .int .i64 m, .string key, .slice Av v.length cv, .bool dd] from T4.out.get (i := 2) rfl) 1
  have q2 := Blk.cell (show Blk w3 g5 _ #[.int .i64 4, .int .i64 st, .int .i64 m, .string key, .slice Av v.length cv, .bool dd] from T4.out.get (i := 2) rfl) 2
  simp only [List.getElem?_toArray, List.getElem?_cons_zero, List.getElem?_cons_succ] at q1 q2
  have HM1 := Lib.hid (show m + 2 ≤ M from hm)
  obtain ⟨m1, hm1⟩ : ∃ m1, m1 = m + 1 := ⟨_, rfl⟩
  have hs1 : (1 : Int) + (m : Int) = (m1 : Int) := by omega
  have hm1M : m1 ≤ M := by omega
  have hm1a : 1 ≤ m1 := by omega
  have HM1E := Lib.hid hm1
  clear hm1
  go_upto_region 8 with fail
  obtain ⟨w4, hw4⟩ : ∃ x, x = w3.alloc (.cells #[.int .i64 6, .int .i64 st, .int .i64 m, .string ⟨#[]⟩, .slice none 0 0, .bool false] 105) := ⟨_, rfl⟩
  have T5 := Lib.hid (show Turn (Item.all []) w0 (Item.all [s.item, Item.bld gb gs st count, Item.blk g5 105 #[.int .i64 4, .int .i64 st, .int .i64 m, .string key, .slice Av v.length cv, .bool dd], Item.blk w3.heap.size 105 #[.int .i64 6, .int .i64 st, .int .i64 m, .string ⟨#[]⟩, .slice none 0 0, .bool false]]) w4 from by
    rw [hw4]
    exact ((T4.out.more (y := Item.blk w3.heap.size 105 #[.int .i64 6, .int .i64 st, .int .i64 m, .string ⟨#[]⟩, .slice none 0 0, .bool false]) ((Below.refl _ _).alloc (Nat.le_refl _) (.cells #[.int .i64 6, .int .i64 st, .int .i64 m, .string ⟨#[]⟩, .slice none 0 0, .bool false] 105)) (Blk.new _ _ _) (fun k hk => Nat.le_of_eq hk.symm)).by_ 4 rfl [1, 2, 3, 0] (by decide)))
  have HB4 := Lib.hid (show Below w3.heap.size w3 w4 from by rw [hw4]; exact (Below.refl _ _).alloc (Nat.le_refl _) _)
  rw [← hw4]
  clear hw4 q1 q2 T4
  obtain ⟨g6, hg6⟩ : ∃ g, g = w3.heap.size := ⟨_, rfl⟩
  rw [← hg6] at T5 ⊢
  have HG6 := Lib.hid hg6
  clear hg6
  have q1 := Blk.cell (show Blk w4 g5 _ #[.int .i64 4, .int .i64 st, .int .i64 m, .string key, .slice Av v.length cv, .bool dd] from T5.out.get (i := 2) rfl) 1
  have q2 := Blk.cell (show Blk w4 g5 _ #[.int .i64 4, .int .i64 st, .int .i64 m, .string key, .slice Av v.length cv, .bool dd] from T5.out.get (i := 2) rfl) 2
  simp only [List.getElem?_toArray, List.getElem?_cons_zero, List.getElem?_cons_succ] at q1 q2
  have hm1c : m1 ≤ c := by omega
  go_wp2
  rw [show m1 - 1 = m from by have := HM1E.out; omega]
  obtain ⟨o6, ho6⟩ : ∃ x, x = off + 6 := ⟨_, rfl⟩
  rw [← ho6]
  obtain ⟨es, hes⟩ : ∃ x, x = r.take m := ⟨_, rfl⟩
  have HES := Lib.hid hes
  have HEL := Lib.hid (show es.length = m from by rw [hes, List.length_take]; have := HMR.out; have := HM1.out; omega)
  have HSub := Lib.hid (show kEn.Sl w0 w0.heap.size (some ⟨bb, o6, none⟩) es from by
    have h1 := sl_drop (k := 1) HS.out
    have h2 := sl_take (k := m) h1
    rw [show l.drop 1 = r from by rw [HL.out]; rfl, ← hes] at h2
    rw [ho6]
    exact h2)
  have HKE := Lib.hid (show ∀ e ∈ es, e.key.size ≤ 1099511627776 ∧ e.value.length ≤ 1099511627776 from fun e he => HKS.out e (by rw [HL.out]; exact List.mem_cons_of_mem _ (List.mem_of_mem_take (by rw [← hes]; exact he))))
  have HNON := Lib.hid (show ckV st [] es = none → ckF st count l = none from fun h => by
    rw [HL.out]
    refine (if_neg HP1.out).trans ((if_neg HP2.out).trans ?_)
    show (match ckV st [] (r.take (m : Int).toNat) with | none => none | some vs => _) = none
    rw [Int.toNat_natCast, ← hes, h])
  have T6 := Lib.hid (show ∃ hs : List Hv, hs.map Hv.x = (es.take 0).map vOf ∧ ckV st [] es = ckV st ((es.take 0).map vOf) (es.drop 0) ∧ Turn (Item.all []) w0 (Item.all [s.item, Item.bld gb gs st count, Item.blk g5 105 #[.int .i64 4, .int .i64 st, .int .i64 m, .string key, .slice Av v.length cv, .bool dd], Item.blk g6 105 #[.int .i64 6, .int .i64 st, .int .i64 m, .string ⟨#[]⟩, .slice none 0 0, .bool false], gV none 0 0 hs]) w4 from ⟨[], rfl, rfl, (T5.out.more (y := gV none 0 0 []) (Below.refl _ _) gV_nil (fun k hk => by
    obtain ⟨i, hi, hk⟩ := hk
    rcases List.mem_cons.1 hi with rfl | hi
    · cases hk
    · cases hi)).by_ 5 rfl [1, 2, 3, 4, 0] (by decide)⟩)
  clear hes ho6 q1 q2 T5 hs1 hm1M hm1a hm1c
  go_loopw [63, 7] (fun t u wr => ∃ (K c' : Nat) (A' : Option Addr), t = .int .i64 K ∧ u = .slice A' K c' ∧ K ≤ m ∧ Hid (∃ hs : List Hv, hs.map Hv.x = (es.take K).map vOf ∧ ckV st [] es = ckV st ((es.take K).map vOf) (es.drop K) ∧ Turn (Item.all []) w0 (Item.all [s.item, Item.bld gb gs st count, Item.blk g5 105 #[.int .i64 4, .int .i64 st, .int .i64 m, .string key, .slice Av v.length cv, .bool dd], Item.blk g6 105 #[.int .i64 6, .int .i64 st, .int .i64 m, .string ⟨#[]⟩, .slice none 0 0, .bool false], gV A' K c' hs]) wr)) (fun t _ _ => m - (intOf t).toNat)
  case atStart => exact ⟨0, 0, none, rfl, rfl, Nat.zero_le _, T6⟩
  case round =>
    clear T6
    obtain ⟨K, c', A', rfl, rfl, hK, hH⟩ := hrel
    by_cases hlt : (K : Int) < (m : Int)
    · have hKl : K < es.length := by have := HEL.out; omega
      have hKi : K + 1 ≤ m := by omega
      obtain ⟨hs, hhs, hck, hT⟩ := hH.out
      obtain ⟨bb', off', A2, c2, hA2, hbb, hints, s0, s1, s2, s3, s4, s5, hval⟩ := en_at (HSub.out.below hT.free) hKl
      injection hA2 with hA2
      injection hA2 with i1 i2
      subst i1; subst i2
      obtain ⟨x, hx⟩ : ∃ x, x = es[K] := ⟨_, rfl⟩
      have hxb := HKE.out x (by rw [hx]; exact List.getElem_mem _)
      rw [← hx] at s0 s1 s2 s3 s4 s5 hval hints
      have HCB := Lib.hid (ckV_bad (top := st) hKl hx)
      have HCD := Lib.hid (ckV_down (top := st) hKl hx)
      have HCU := Lib.hid (ckV_up (top := st) hKl hx)
      have HC := Lib.hid hck
      have HHS := Lib.hid hhs
      have HX := Lib.hid hx
      have HT := Lib.hid hT
      have hwsz := hT.free.size
      obtain ⟨xk, xs, xn, xkey, xv, xd⟩ := x
      simp only at s0 s1 s2 s3 s4 s5 hval hxb
      have hxb1 : xkey.size ≤ 1099511627776 := hxb.1
      have hxb2 : xv.length ≤ 1099511627776 := hxb.2
      have HVAL := Lib.hid (hval.more hwsz)
      have hb9 := (Below.refl wr.heap.size wr).alloc (Nat.le_refl _) (.cells #[.int .i64 xk, .int .i64 xs, .int .i64 xn, .string xkey, .slice A2 xv.length c2, .bool xd] 105)
      have BA := Lib.hid hb9
      have T9 := Lib.hid ((hT.more (y := Item.blk wr.heap.size 105 #[.int .i64 xk, .int .i64 xs, .int .i64 xn, .string xkey, .slice A2 xv.length c2, .bool xd]) hb9 (Blk.new _ _ _) (fun k hk => Nat.le_of_eq hk.symm)).by_ 6 rfl [1, 2, 3, 4, 5, 0] (by decide))
      have HVE := Lib.hid (version_any (A := A2) (c := c2) ⟨xk, xs, xn, xkey, xv, xd⟩ ((HVAL.out.below hb9).more hb9.size) (by simp only; omega))
      clear hx hxb hhs hck hT hwsz hval hints hbb hH hb9
      by_cases h5 : xk = 5
      · subst h5
        go_wp2_with fail
        refine HVE.out.mono ?_
        rintro e w5 ⟨A3, c3, rfl, ho3, hb3⟩
        obtain ⟨vk, vs, vv, vd, hV⟩ : ∃ vk vs vv vd, (⟨vk, vs, vv, vd⟩ : Vn) = ⟨xkey, xs, xv, xd⟩ := ⟨_, _, _, _, rfl⟩
        rw [show En.version ⟨5, xs, xn, xkey, xv, xd⟩ = (⟨xkey, xs, xv, xd⟩, true) from rfl, ← hV] at ho3 ⊢
        simp only at ho3 ⊢
        rw [show Vn.cells ⟨vk, vs, vv, vd⟩ A3 c3 = #[.string vk, .int .i64 vs, .slice A3 vv.length c3, .bool vd] from rfl]
        have HVV := Lib.hid hV
        clear hV
        have T10 := Lib.hid ((T9.out.more (y := Item.row (.slice A3 vv.length c3) vv) hb3 (owns_less ho3 (Nat.zero_le _)) (fun k hk => (ho3.lt hk).1)).by_ 7 rfl [1, 2, 3, 4, 5, 6, 0] (by decide))
        have T11 := Lib.hid ((T10.out.more (y := Item.blk w5.heap.size 51 #[.string vk, .int .i64 vs, .slice A3 vv.length c3, .bool vd]) ((Below.refl _ _).alloc (Nat.le_refl _) (.cells #[.string vk, .int .i64 vs, .slice A3 vv.length c3, .bool vd] 51)) (Blk.new _ _ _) (fun k hk => Nat.le_of_eq hk.symm)).by_ 8 rfl [1, 2, 3, 4, 5, 6, 7, 0] (by decide))
        have BL6 := Lib.hid (hb3.trans (((Below.refl w5.heap.size w5).alloc (Nat.le_refl _) (.cells #[.string vk, .int .i64 vs, .slice A3 vv.length c3, .bool vd] 51)).mono hb3.size))
        clear ho3 hb3 HVE T9 T10
        go_upto_region 12 with fail
        obtain ⟨w6, hw6⟩ : ∃ x, x = w5.alloc (.cells #[.string vk, .int .i64 vs, .slice A3 vv.length c3, .bool vd] 51) := ⟨_, rfl⟩
        rw [← hw6] at T11 BL6 ⊢
        clear hw6
        obtain ⟨g10, hg10⟩ : ∃ g, g = w5.heap.size := ⟨_, rfl⟩
        rw [← hg10] at T11 ⊢
        clear hg10
        obtain ⟨g9, hg9⟩ : ∃ g, g = wr.heap.size := ⟨_, rfl⟩
        rw [← hg9] at T11 ⊢
        clear hg9
        have q0 := Blk.cell (show Blk w6 g9 _ #[.int .i64 5, .int .i64 xs, .int .i64 xn, .string xkey, .slice A2 xv.length c2, .bool xd] from T11.out.get (i := 5) rfl) 0
        have q1 := Blk.cell (show Blk w6 g9 _ #[.int .i64 5, .int .i64 xs, .int .i64 xn, .string xkey, .slice A2 xv.length c2, .bool xd] from T11.out.get (i := 5) rfl) 1
        have q2 := Blk.cell (show Blk w6 g9 _ #[.int .i64 5, .int .i64 xs, .int .i64 xn, .string xkey, .slice A2 xv.length c2, .bool xd] from T11.out.get (i := 5) rfl) 2
        have q3 := Blk.cell (show Blk w6 g9 _ #[.int .i64 5, .int .i64 xs, .int .i64 xn, .string xkey, .slice A2 xv.length c2, .bool xd] from T11.out.get (i := 5) rfl) 3
        have q4 := Blk.cell (show Blk w6 g9 _ #[.int .i64 5, .int .i64 xs, .int .i64 xn, .string xkey, .slice A2 xv.length c2, .bool xd] from T11.out.get (i := 5) rfl) 4
        have q5 := Blk.cell (show Blk w6 g9 _ #[.int .i64 5, .int .i64 xs, .int .i64 xn, .string xkey, .slice A2 xv.length c2, .bool xd] from T11.out.get (i := 5) rfl) 5
        simp only [List.getElem?_toArray, List.getElem?_cons_zero, List.getElem?_cons_succ] at q0 q1 q2 q3 q4 q5
        have HCK := Lib.hid (check_any (w := w6) (A := A2) (c := c2) ⟨5, xs, xn, xkey, xv, xd⟩ (by simp only; omega) (by simp only; omega))
        obtain ⟨R, hR⟩ : ∃ R, R = En.chk ⟨5, xs, xn, xkey, xv, xd⟩ := ⟨_, rfl⟩
        rw [← hR] at HCK
        have HR2 := Lib.hid hR
        clear hR
        go_wp2_with fail
        refine HCK.out.mono ?_
        rintro e w7 ⟨rfl, hb7⟩
        have T12 := Lib.hid (T11.out.go hb7)
        clear T11 q0 q1 q2 q3 q4 q5 HCK hb7
        have q1 := Blk.cell (show Blk w7 g5 _ #[.int .i64 4, .int .i64 st, .int .i64 m, .string key, .slice Av v.length cv, .bool dd] from T12.out.get (i := 2) rfl) 1
        have p0 := Blk.cell (show Blk w7 g10 _ #[.string vk, .int .i64 vs, .slice A3 vv.length c3, .bool vd] from T12.out.get (i := 7) rfl) 0
        have p1 := Blk.cell (show Blk w7 g10 _ #[.string vk, .int .i64 vs, .slice A3 vv.length c3, .bool vd] from T12.out.get (i := 7) rfl) 1
        have p2 := Blk.cell (show Blk w7 g10 _ #[.string vk, .int .i64 vs, .slice A3 vv.length c3, .bool vd] from T12.out.get (i := 7) rfl) 2
        have p3 := Blk.cell (show Blk w7 g10 _ #[.string vk, .int .i64 vs, .slice A3 vv.length c3, .bool vd] from T12.out.get (i := 7) rfl) 3
        simp only [List.getElem?_toArray, List.getElem?_cons_zero, List.getElem?_cons_succ] at q1 p0 p1 p2 p3
        have hvs : vs = xs := congrArg Vn.stamp HVV.out
        by_cases hr2 : R = 0
        · have HR3 := Lib.hid (HR2.out.symm.trans hr2)
          subst hr2
          by_cases hst : st < vs
          · have HF := Lib.hid (HNON.out (HC.out.trans (HCB.out (.inr (.inr (show st < xs from by omega))))))
            have HR6 := Lib.hid (HNT.out w7 HF.out (T12.out.sub (List.Sublist.cons_cons _ (List.Sublist.cons_cons _ (List.nil_sublist _)))))
            have d1 : decide (st < vs) = true := decide_eq_true hst
            clear hvs
            go_wp2
            go_ret
            exact HR6.out
          · have HOKK := Lib.hid (show ¬ ((5 : Int) ≠ 5 ∨ (⟨5, xs, xn, xkey, xv, xd⟩ : En).chk ≠ 0 ∨ st < xs) from by
              rintro (h | h | h)
              · exact h rfl
              · exact h HR3.out
              · omega)
            have d1 : decide (st < vs) = false := decide_eq_false hst
            have HVS := Lib.hid hvs
            clear hst hvs
            rcases Nat.eq_zero_or_pos K with hz | hz
            · have HUP : Hid (badNext ((es.take K).map vOf) (vOf ⟨5, xs, xn, xkey, xv, xd⟩) = false) := Lib.hid (by rw [hz]; exact badNext_0)
              have d2 : decide (0 < (K : Int)) = false := decide_eq_false (by omega)
              have d2' : decide (0 < K) = false := decide_eq_false (by omega)
              clear hz
              go_upto_region 14 with fail
              go_quiet (fail)
              have T13 := Lib.hid (T12.out.go (below_drewN (Below.refl _ _) nq))
              clear T12
              obtain ⟨w8, hw8⟩ : ∃ x, x = w7.drewN nq := ⟨_, rfl⟩
              rw [← hw8] at T13 ⊢
              clear hw8 p0 p1 p2 p3 q1
              have p0 := Blk.cell (show Blk w8 g10 _ #[.string vk, .int .i64 vs, .slice A3 vv.length c3, .bool vd] from T13.out.get (i := 7) rfl) 0
              have p1 := Blk.cell (show Blk w8 g10 _ #[.string vk, .int .i64 vs, .slice A3 vv.length c3, .bool vd] from T13.out.get (i := 7) rfl) 1
              have p2 := Blk.cell (show Blk w8 g10 _ #[.string vk, .int .i64 vs, .slice A3 vv.length c3, .bool vd] from T13.out.get (i := 7) rfl) 2
              have p3 := Blk.cell (show Blk w8 g10 _ #[.string vk, .int .i64 vs, .slice A3 vv.length c3, .bool vd] from T13.out.get (i := 7) rfl) 3
              simp only [List.getElem?_toArray, List.getElem?_cons_zero, List.getElem?_cons_succ] at p0 p1 p2 p3
              go_wp2_with (at_builtin; refine Stop.of ?_)
              have T14 := Lib.hid (T13.out.go ((Below.refl _ _).alloc (Nat.le_refl _) (.cells #[.string vk, .int .i64 vs, .slice A3 vv.length c3, .bool vd] 51)))
              refine ⟨wpList_append_any _ rfl rfl 0 Tryz.underlying23 info_ver rfl (by decide) (by decide) rfl (show World.ownsRow _ 0 51 4 (.slice A' K c') K (hvCells hs) from Item.all_get (T14.out.get (i := 4) rfl) (List.mem_cons_self ..)) rfl (fresh_src (Blk.new w8 51 #[.string vk, .int .i64 vs, .slice A3 vv.length c3, .bool vd]) Tryz.underlying23 rfl (by decide) rfl) (by omega) (Nat.zero_le _) ?_⟩
              intro v' w9 ho hg hf
              obtain ⟨A9, c9, rfl, _, _⟩ := own_slice ho
              have T15 := T14.out.step (i := 4) rfl (gV_app (t := ⟨⟨vk, vs, vv, vd⟩, A3, c3⟩) (T14.out.get (i := 4) rfl) ho hg hf)
              have T16 := Lib.hid ((gV_joinL (t := ⟨⟨vk, vs, vv, vd⟩, A3, c3⟩) ((T15.by_ 8 rfl [4, 6, 0, 1, 2, 3, 5, 7] (by decide)).sub (M := [_, _, _, _, _, _]) (List.Sublist.cons_cons _ (List.Sublist.cons_cons _ (List.Sublist.cons_cons _ (List.Sublist.cons_cons _ (List.Sublist.cons_cons _ (List.Sublist.cons_cons _ (List.nil_sublist _))))))))).by_ 5 rfl [1, 2, 3, 4, 0] (by decide))
              have HRR := Lib.hid (show ∃ hs : List Hv, hs.map Hv.x = (es.take (K + 1)).map vOf ∧ ckV st [] es = ckV st ((es.take (K + 1)).map vOf) (es.drop (K + 1)) ∧ Turn (Item.all []) w0 (Item.all [s.item, Item.bld gb gs st count, Item.blk g5 105 #[.int .i64 4, .int .i64 st, .int .i64 m, .string key, .slice Av v.length cv, .bool dd], Item.blk g6 105 #[.int .i64 6, .int .i64 st, .int .i64 m, .string ⟨#[]⟩, .slice none 0 0, .bool false], gV A9 (K + 1) c9 hs]) w9 from ⟨_, by
                rw [List.map_append, HHS.out, List.take_succ_eq_append_getElem hKl, List.map_append, ← HX.out]
                show _ ++ [_] = _ ++ [vOf _]
                unfold vOf
                rw [← HVV.out], HC.out.trans (HCU.out HOKK.out HUP.out), T16.out⟩)
              clear ho hg hf T13 T14 T15 T16 p0 p1 p2 p3
              go_wp2
              exact ⟨⟨K + 1, c9, A9, by go_num, rfl, hKi, HRR⟩, by simp [intOf]; omega⟩
            · obtain ⟨J, hJ⟩ : ∃ J, K = J + 1 := ⟨K - 1, by omega⟩
              have hJe : J < es.length := by omega
              have hlen : hs.length = K := by rw [← List.length_map (f := Hv.x), HHS.out, List.length_map, List.length_take]; omega
              have hJh : J < hs.length := by omega
              have hpk : (hs.map pvOf)[J]? = some (pvOf hs[J]) := by rw [List.getElem?_map, List.getElem?_eq_getElem hJh]; rfl
              have hgv : (gP A' K c' (hs.map pvOf)).P w7 := by rw [← gV_gP]; exact T12.out.get (i := 4) rfl
              obtain ⟨gx, hgx, hgl, a0, a1, r0, r1, r2, r3⟩ := pv_at hgv (by rw [List.length_map]; exact hlen) hpk
              have hxJ : (hs[J]).x = vOf es[J] := by
                have h1 : (hs.map Hv.x)[J]? = some (hs[J]).x := by rw [List.getElem?_map, List.getElem?_eq_getElem hJh]; rfl
                rw [HHS.out, List.getElem?_map, List.getElem?_take_of_lt (show J < K by omega), List.getElem?_eq_getElem hJe] at h1
                injection h1 with h1
                exact h1.symm
              obtain ⟨hj, hh⟩ : ∃ h, h = hs[J] := ⟨_, rfl⟩
              rw [← hh] at hxJ r0 r1 r2 r3
              obtain ⟨⟨lk, ls, lv, ld⟩, LA, lc⟩ := hj
              simp only [pvOf] at r0 r1 r2 r3 hxJ
              obtain ⟨B, hB⟩ : ∃ B, B = nextB ⟨vk, vs, vv, vd⟩ ⟨lk, ls, lv, ld⟩ := ⟨_, rfl⟩
              have HNB : Hid (badNext ((es.take K).map vOf) (vOf ⟨5, xs, xn, xkey, xv, xd⟩) = !B) := Lib.hid (by
                rw [hJ, badNext_J hJe hxJ, hB, HVV.out]; rfl)
              have hnx := isNext_any (w := w7.drew) (A := A3) (A' := LA) (c := c3) (c' := lc) ⟨vk, vs, vv, vd⟩ ⟨lk, ls, lv, ld⟩
              rw [← hB, show Vn.cells ⟨vk, vs, vv, vd⟩ A3 c3 = #[.string vk, .int .i64 vs, .slice A3 vv.length c3, .bool vd] from rfl, show Vn.cells ⟨lk, ls, lv, ld⟩ LA lc = #[.string lk, .int .i64 ls, .slice LA lv.length lc, .bool ld] from rfl] at hnx
              have HNX := Lib.hid hnx
              have hg10 : g10 < w7.drew.heap.size := (show Blk w7 g10 _ #[.string vk, .int .i64 vs, .slice A3 vv.length c3, .bool vd] from T12.out.get (i := 7) rfl).lt
              have hgxl : gx < w7.drew.heap.size := hgl
              have hJ1 : (K : Int) - 1 = (J : Int) := by omega
              have hJn : J < K := by omega
              have hJw : IntKind.i64.wrap ((K : Int) - 1) = (J : Int) := by rw [IntKind.wrap_i64]; omega
              have hJi : (J : Int) < (K : Int) := by omega
              have hJw2 : IntKind.i64.wrap (J : Int) = (J : Int) := by rw [IntKind.wrap_i64]; omega
              have hJ0 : (0 : Int) ≤ (J : Int) := by omega
              have d2 : decide (0 < (K : Int)) = true := decide_eq_true (by omega)
              have d2' : decide (0 < K) = true := decide_eq_true (by omega)
              subst hgx
              clear hz hJ hJe hlen hJh hpk hgv hgl a0 a1 hxJ hh hB hnx
              go_wp2_with fail
              go_region_held3 (fun w' => w'.cell? ⟨g10, 0, none⟩ = some (.string vk) ∧ w'.cell? ⟨g10, 1, none⟩ = some (.int .i64 vs) ∧ w'.cell? ⟨g10, 2, none⟩ = some (.slice A3 vv.length c3) ∧ w'.cell? ⟨g10, 3, none⟩ = some (.bool vd) ∧ w'.cell? ⟨gx, J * 4, none⟩ = some (.string lk) ∧ w'.cell? ⟨gx, J * 4 + 1, none⟩ = some (.int .i64 ls) ∧ w'.cell? ⟨gx, J * 4 + 2, none⟩ = some (.slice LA lv.length lc) ∧ w'.cell? ⟨gx, J * 4 + 3, none⟩ = some (.bool ld)) (first | (with_reducible exact ⟨p0, p1, p2, p3, r0, r1, r2, r3⟩) | (with_reducible exact ⟨z0, z1, z2, z3, z4, z5, z6, z7⟩) | go_keep) ((go_at_call 162; refine HNX.out.mono ?_; rintro e w8 ⟨rfl, hb⟩; have T13 := Lib.hid (T12.out.go ((Below.refl w7.heap.size w7).drew.trans hb)); have z0 := (hb.cell (p := ⟨g10, 0, none⟩) hg10).trans p0; have z1 := (hb.cell (p := ⟨g10, 1, none⟩) hg10).trans p1; have z2 := (hb.cell (p := ⟨g10, 2, none⟩) hg10).trans p2; have z3 := (hb.cell (p := ⟨g10, 3, none⟩) hg10).trans p3; have z4 := (hb.cell (p := ⟨gx, J * 4, none⟩) hgxl).trans r0; have z5 := (hb.cell (p := ⟨gx, J * 4 + 1, none⟩) hgxl).trans r1; have z6 := (hb.cell (p := ⟨gx, J * 4 + 2, none⟩) hgxl).trans r2; have z7 := (hb.cell (p := ⟨gx, J * 4 + 3, none⟩) hgxl).trans r3; clear hb))
              clear p0 p1 p2 p3 r0 r1 r2 r3 z4 z5 z6 z7 T12 HNX hg10 hgxl q1
              have p0 := z0
              have p1 := z1
              have p2 := z2
              have p3 := z3
              clear z0 z1 z2 z3
              cases B with
              | true =>
                have HUP := Lib.hid (show badNext ((es.take K).map vOf) (vOf ⟨5, xs, xn, xkey, xv, xd⟩) = false from HNB.out)
                go_wp2_with (at_builtin; refine Stop.of ?_)
                have T14 := Lib.hid (T13.out.go ((Below.refl _ _).alloc (Nat.le_refl _) (.cells #[.string vk, .int .i64 vs, .slice A3 vv.length c3, .bool vd] 51)))
                refine ⟨wpList_append_any _ rfl rfl 0 Tryz.underlying23 info_ver rfl (by decide) (by decide) rfl (show World.ownsRow _ 0 51 4 (.slice (some ⟨gx, 0, none⟩) K c') K (hvCells hs) from Item.all_get (T14.out.get (i := 4) rfl) (List.mem_cons_self ..)) rfl (fresh_src (Blk.new w8 51 #[.string vk, .int .i64 vs, .slice A3 vv.length c3, .bool vd]) Tryz.underlying23 rfl (by decide) rfl) (by omega) (Nat.zero_le _) ?_⟩
                intro v' w9 ho hg hf
                obtain ⟨A9, c9, rfl, _, _⟩ := own_slice ho
                have T15 := T14.out.step (i := 4) rfl (gV_app (t := ⟨⟨vk, vs, vv, vd⟩, A3, c3⟩) (T14.out.get (i := 4) rfl) ho hg hf)
                have T16 := Lib.hid ((gV_joinL (t := ⟨⟨vk, vs, vv, vd⟩, A3, c3⟩) ((T15.by_ 8 rfl [4, 6, 0, 1, 2, 3, 5, 7] (by decide)).sub (M := [_, _, _, _, _, _]) (List.Sublist.cons_cons _ (List.Sublist.cons_cons _ (List.Sublist.cons_cons _ (List.Sublist.cons_cons _ (List.Sublist.cons_cons _ (List.Sublist.cons_cons _ (List.nil_sublist _))))))))).by_ 5 rfl [1, 2, 3, 4, 0] (by decide))
                have HRR := Lib.hid (show ∃ hs : List Hv, hs.map Hv.x = (es.take (K + 1)).map vOf ∧ ckV st [] es = ckV st ((es.take (K + 1)).map vOf) (es.drop (K + 1)) ∧ Turn (Item.all []) w0 (Item.all [s.item, Item.bld gb gs st count, Item.blk g5 105 #[.int .i64 4, .int .i64 st, .int .i64 m, .string key, .slice Av v.length cv, .bool dd], Item.blk g6 105 #[.int .i64 6, .int .i64 st, .int .i64 m, .string ⟨#[]⟩, .slice none 0 0, .bool false], gV A9 (K + 1) c9 hs]) w9 from ⟨_, by
                  rw [List.map_append, HHS.out, List.take_succ_eq_append_getElem hKl, List.map_append, ← HX.out]
                  show _ ++ [_] = _ ++ [vOf _]
                  unfold vOf
                  rw [← HVV.out], HC.out.trans (HCU.out HOKK.out HUP.out), T16.out⟩)
                clear ho hg hf T13 T14 T15 T16 p0 p1 p2 p3
                go_wp2
                exact ⟨⟨K + 1, c9, A9, by go_num, rfl, hKi, HRR⟩, by simp [intOf]; omega⟩
              | false =>
                have HF := Lib.hid (HNON.out (HC.out.trans (HCD.out HNB.out)))
                have HR6 := Lib.hid (HNT.out w8 HF.out (T13.out.sub (List.Sublist.cons_cons _ (List.Sublist.cons_cons _ (List.nil_sublist _)))))
                go_wp2
                go_ret
                exact HR6.out
        · have HF := Lib.hid (HNON.out (HC.out.trans (HCB.out (.inr (.inl (by rw [← HR2.out]; exact hr2))))))
          have HR6 := Lib.hid (HNT.out w7 HF.out (T12.out.sub (List.Sublist.cons_cons _ (List.Sublist.cons_cons _ (List.nil_sublist _)))))
          have d0 : decide (R = 0) = false := decide_eq_false hr2
          clear hvs
          go_wp2
          go_ret
          exact HR6.out
      · have HF := Lib.hid (HNON.out (HC.out.trans (HCB.out (.inl h5))))
        go_wp2_with fail
        refine HVE.out.mono ?_
        rintro e w5 ⟨A3, c3, rfl, ho3, hb3⟩
        obtain ⟨⟨vk, vs, vv, vd⟩, hV⟩ : ∃ V, V = (En.version ⟨xk, xs, xn, xkey, xv, xd⟩).1 := ⟨_, rfl⟩
        obtain ⟨vb, hvb⟩ : ∃ V, V = (En.version ⟨xk, xs, xn, xkey, xv, xd⟩).2 := ⟨_, rfl⟩
        rw [← hV] at ho3 ⊢
        rw [← hvb, show Vn.cells ⟨vk, vs, vv, vd⟩ A3 c3 = #[.string vk, .int .i64 vs, .slice A3 vv.length c3, .bool vd] from rfl]
        simp only at ho3
        clear hV hvb
        have T10 := Lib.hid ((T9.out.more (y := Item.row (.slice A3 vv.length c3) vv) hb3 (owns_less ho3 (Nat.zero_le _)) (fun k hk => (ho3.lt hk).1)).by_ 7 rfl [1, 2, 3, 4, 5, 6, 0] (by decide))
        have T11 := Lib.hid ((T10.out.more (y := Item.blk w5.heap.size 51 #[.string vk, .int .i64 vs, .slice A3 vv.length c3, .bool vd]) ((Below.refl _ _).alloc (Nat.le_refl _) (.cells #[.string vk, .int .i64 vs, .slice A3 vv.length c3, .bool vd] 51)) (Blk.new _ _ _) (fun k hk => Nat.le_of_eq hk.symm)).by_ 8 rfl [1, 2, 3, 4, 5, 6, 7, 0] (by decide))
        have BL6 := Lib.hid (hb3.trans (((Below.refl w5.heap.size w5).alloc (Nat.le_refl _) (.cells #[.string vk, .int .i64 vs, .slice A3 vv.length c3, .bool vd] 51)).mono hb3.size))
        clear ho3 hb3 HVE T9 T10
        go_upto_region 12 with fail
        obtain ⟨w6, hw6⟩ : ∃ x, x = w5.alloc (.cells #[.string vk, .int .i64 vs, .slice A3 vv.length c3, .bool vd] 51) := ⟨_, rfl⟩
        rw [← hw6] at T11 BL6 ⊢
        clear hw6
        obtain ⟨g10, hg10⟩ : ∃ g, g = w5.heap.size := ⟨_, rfl⟩
        rw [← hg10] at T11 ⊢
        clear hg10
        obtain ⟨g9, hg9⟩ : ∃ g, g = wr.heap.size := ⟨_, rfl⟩
        rw [← hg9] at T11 ⊢
        clear hg9
        have q0 := Blk.cell (show Blk w6 g9 _ #[.int .i64 xk, .int .i64 xs, .int .i64 xn, .string xkey, .slice A2 xv.length c2, .bool xd] from T11.out.get (i := 5) rfl) 0
        have q1 := Blk.cell (show Blk w6 g9 _ #[.int .i64 xk, .int .i64 xs, .int .i64 xn, .string xkey, .slice A2 xv.length c2, .bool xd] from T11.out.get (i := 5) rfl) 1
        have q2 := Blk.cell (show Blk w6 g9 _ #[.int .i64 xk, .int .i64 xs, .int .i64 xn, .string xkey, .slice A2 xv.length c2, .bool xd] from T11.out.get (i := 5) rfl) 2
        have q3 := Blk.cell (show Blk w6 g9 _ #[.int .i64 xk, .int .i64 xs, .int .i64 xn, .string xkey, .slice A2 xv.length c2, .bool xd] from T11.out.get (i := 5) rfl) 3
        have q4 := Blk.cell (show Blk w6 g9 _ #[.int .i64 xk, .int .i64 xs, .int .i64 xn, .string xkey, .slice A2 xv.length c2, .bool xd] from T11.out.get (i := 5) rfl) 4
        have q5 := Blk.cell (show Blk w6 g9 _ #[.int .i64 xk, .int .i64 xs, .int .i64 xn, .string xkey, .slice A2 xv.length c2, .bool xd] from T11.out.get (i := 5) rfl) 5
        simp only [List.getElem?_toArray, List.getElem?_cons_zero, List.getElem?_cons_succ] at q0 q1 q2 q3 q4 q5
        have d5 : decide (xk = 5) = false := decide_eq_false h5
        have b5 : (xk == 5) = false := beq_false_of_ne h5
        have b5n : (xk != 5) = true := by unfold bne; rw [b5]; rfl
        have d5n : decide (xk ≠ 5) = true := decide_eq_true h5
        have HR6 := Lib.hid (HNT.out w6 HF.out (T11.out.sub (List.Sublist.cons_cons _ (List.Sublist.cons_cons _ (List.nil_sublist _)))))
        cases vb with
        | true =>
          go_wp2
          go_ret
          exact HR6.out
        | false =>
          go_wp2
          go_ret
          exact HR6.out
    · have hKm : m = K := by omega
      subst hKm
      have T7 := Lib.hid hH.out
      clear hH
      obtain ⟨hs, hhs, hck, hT⟩ := T7.out
      rw [List.drop_of_length_le (by rw [HEL.out]; exact Nat.le_refl _), List.take_of_length_le (by rw [HEL.out]; exact Nat.le_refl _)] at hck
      rw [List.take_of_length_le (by rw [HEL.out]; exact Nat.le_refl _)] at hhs
      have hm1l : m1 < l.length := by have := HM1.out; have := HM1E.out; have := HM.out; omega
      obtain ⟨bb', off', A2, c2, hA2, hbb, hints, s0, s1, s2, s3, s4, s5, hval⟩ := en_at (HS.out.below hT.free) hm1l
      injection hA2 with hA2
      injection hA2 with i1 i2
      subst i1; subst i2
      obtain ⟨x, hx⟩ : ∃ x, x = l[m1] := ⟨_, rfl⟩
      have hxb := HKS.out x (by rw [hx]; exact List.getElem_mem _)
      have hrx : r[m]? = some x := by
        have h1 : l[m1]? = some x := by rw [hx]; exact List.getElem?_eq_getElem hm1l
        rw [HL.out, HM1E.out, List.getElem?_cons_succ] at h1
        exact h1
      rw [← hx] at s0 s1 s2 s3 s4 s5
      have HCF := Lib.hid (show ckF st count l = if x.kind = 6 ∧ x.stamp = st ∧ x.count = (m : Int) ∧ x.chk = 0 then (if (loadF [] (es.map vOf)).2 = 0 then some ((loadF [] (es.map vOf)).1, st, m + 2) else none) else none from by
        rw [HL.out]
        refine (if_neg HP1.out).trans ((if_neg HP2.out).trans ?_)
        show (match ckV st [] (r.take (m : Int).toNat) with | none => none | some vs => _) = _
        rw [Int.toNat_natCast, ← HES.out, hck]
        show (match ckV st (es.map vOf) [] with | none => none | some vs => _) = _
        unfold ckV
        simp only [Int.toNat_natCast, hrx])
      have HHS := Lib.hid hhs
      have HTE := Lib.hid hT
      obtain ⟨xk, xs, xn, xkey, xv, xd⟩ := x
      simp only at s0 s1 s2 s3 s4 s5 hxb
      have hxb1 : xkey.size ≤ 1099511627776 := hxb.1
      have hxb2 : xv.length ≤ 1099511627776 := hxb.2
      have q2 := Blk.cell (show Blk wr g5 _ #[.int .i64 4, .int .i64 st, .int .i64 m, .string key, .slice Av v.length cv, .bool dd] from HTE.out.get (i := 2) rfl) 2
      simp only [List.getElem?_toArray, List.getElem?_cons_zero, List.getElem?_cons_succ] at q2
      have hs1 : (1 : Int) + (m : Int) = (m1 : Int) := by have := HM1E.out; omega
      have hm1M : (m1 : Int) < (M : Int) := by have := HM1.out; have := HM1E.out; omega
      have HSL : Hid (kVn.Sl wr wr.heap.size A' (es.map vOf)) := Lib.hid (by
        have := hv_sl (show (gV A' m c' hs).P wr from HTE.out.get (i := 4) rfl) (by rw [← List.length_map (f := Hv.x), HHS.out, List.length_map, HEL.out]) (by
          rw [HHS.out]
          intro e he
          obtain ⟨y, hy, rfl⟩ := List.mem_map.1 he
          exact (sl_eints HSub.out y hy))
        rwa [HHS.out] at this)
      have HLN := Lib.hid (show (es.map vOf).length = m from by rw [List.length_map]; exact HEL.out)
      have HKV := Lib.hid (show ∀ v ∈ es.map vOf, v.key.size ≤ maxLen ∧ v.value.length ≤ 140737488355328 from fun v hv => by
        obtain ⟨y, hy, rfl⟩ := List.mem_map.1 hv
        have := HKE.out y hy
        exact ⟨show y.key.size ≤ maxLen from by unfold maxLen; omega, show y.value.length ≤ _ from by omega⟩)
      have z0 := Blk.cell (show Blk wr g6 _ #[.int .i64 6, .int .i64 st, .int .i64 m, .string ⟨#[]⟩, .slice none 0 0, .bool false] from HTE.out.get (i := 3) rfl) 0
      have z1 := Blk.cell (show Blk wr g6 _ #[.int .i64 6, .int .i64 st, .int .i64 m, .string ⟨#[]⟩, .slice none 0 0, .bool false] from HTE.out.get (i := 3) rfl) 1
      have z2 := Blk.cell (show Blk wr g6 _ #[.int .i64 6, .int .i64 st, .int .i64 m, .string ⟨#[]⟩, .slice none 0 0, .bool false] from HTE.out.get (i := 3) rfl) 2
      have hg6 := (show Blk wr g6 _ #[.int .i64 6, .int .i64 st, .int .i64 m, .string ⟨#[]⟩, .slice none 0 0, .bool false] from HTE.out.get (i := 3) rfl).lt
      simp only [List.getElem?_toArray, List.getElem?_cons_zero, List.getElem?_cons_succ] at z0 z1 z2
      have hbA := (Below.refl wr.heap.size wr).alloc (Nat.le_refl _) (.cells #[.int .i64 xk, .int .i64 xs, .int .i64 xn, .string xkey, .slice A2 xv.length c2, .bool xd] 105)
      clear T7 hhs hck hT hm1l hbb hints hval hx hrx hxb
      by_cases k6 : xk = 6
      · subst k6
        by_cases k1 : xs = st
        · subst k1
          by_cases k2 : xn = (m : Int)
          · subst k2
            have HCK := Lib.hid (check_any (w := wr.alloc (.cells #[.int .i64 6, .int .i64 xs, .int .i64 m, .string xkey, .slice A2 xv.length c2, .bool xd] 105)) (A := A2) (c := c2) ⟨6, xs, m, xkey, xv, xd⟩ (by simp only; omega) (by simp only; omega))
            obtain ⟨R, hR⟩ : ∃ R, R = En.chk ⟨6, xs, m, xkey, xv, xd⟩ := ⟨_, rfl⟩
            rw [← hR] at HCK
            have HR2 := Lib.hid hR
            clear hR
            go_wp2_with fail
            refine HCK.out.mono ?_
            rintro e w9 ⟨rfl, hb9⟩
            have HB9 := Lib.hid (hbA.trans (hb9.mono hbA.size))
            clear hb9 hbA HCK
            by_cases hr2 : R = 0
            · have HR3 := Lib.hid (HR2.out.symm.trans hr2)
              have HCG := Lib.hid (HCF.out.trans (if_pos ⟨trivial, trivial, trivial, HR3.out⟩))
              subst hr2
              have hld := load_any (w := w9) (c := c') (HSL.out.below HB9.out) HB9.out.size (by rw [HLN.out]; omega) HKV.out
              rw [HLN.out] at hld
              have HLD := Lib.hid hld
              have T10 := Lib.hid (HTE.out.go HB9.out)
              clear hld
              go_wp2_with fail
              refine HLD.out.mono ?_
              rintro e w10 (⟨h1, rfl, hb⟩ | ⟨h1, s', rfl, hok', hv', t⟩)
              · have HF := Lib.hid (HCG.out.trans (if_neg h1))
                have HR6 := Lib.hid (HNT.out _ HF.out ((T10.out.go hb).sub (List.Sublist.cons_cons _ (List.Sublist.cons_cons _ (List.nil_sublist _)))))
                obtain ⟨R2, hR2⟩ : ∃ R2, R2 = (loadF [] (es.map vOf)).2 := ⟨_, rfl⟩
                rw [← hR2] at h1 ⊢
                have d0 : decide (R2 = 0) = false := decide_eq_false h1
                clear hR2 hb
                go_wp2
                go_ret
                exact HR6.out
              · have T11 := Lib.hid (T10.out.join t)
                have HG := Lib.hid (HCG.out.trans (if_pos h1))
                have y0 := Blk.cell (show Blk w10 gb _ (bldCells gs xs count) from T11.out.get (i := 1) rfl) 0
                have y1 := Blk.cell (show Blk w10 gb _ (bldCells gs xs count) from T11.out.get (i := 1) rfl) 1
                have f0 := Blk.frozen (show Blk w10 gb _ (bldCells gs xs count) from T11.out.get (i := 1) rfl) 0
                have f1 := Blk.frozen (show Blk w10 gb _ (bldCells gs xs count) from T11.out.get (i := 1) rfl) 1
                have q1 := Blk.cell (show Blk w10 g5 _ #[.int .i64 4, .int .i64 xs, .int .i64 m, .string key, .slice Av v.length cv, .bool dd] from T11.out.get (i := 2) rfl) 1
                have q2 := Blk.cell (show Blk w10 g5 _ #[.int .i64 4, .int .i64 xs, .int .i64 m, .string key, .slice Av v.length cv, .bool dd] from T11.out.get (i := 2) rfl) 2
                simp only [List.getElem?_toArray, List.getElem?_cons_zero, List.getElem?_cons_succ, bldCells] at y0 y1 q1 q2
                have HSN := Lib.hid (And.intro hok' hv')
                obtain ⟨gn, hgn⟩ : ∃ g, g = s'.gs := ⟨_, rfl⟩
                have HGN := Lib.hid hgn
                have hgg : g5 ≠ gb := by
                  have h1 := T11.out.p.2
                  simp only [List.cons_append, List.pairwise_cons] at h1
                  intro h
                  exact h1.2.1 _ (List.mem_cons_self ..) gb rfl h.symm
                have HRE := Lib.hid (show CkPost w0 s gb xs count l (.returned (.int .i64 ((m : Int) + 2))) (((w10.setCell ⟨gb, 0, none⟩ (.pointer (some ⟨gn, 0, none⟩))).setCell ⟨gb, 1, none⟩ (.int .i64 xs)).drew) from .inr ⟨_, _, _, HG.out, rfl, s', okMore HSN.out.1 (by rw [HLN.out]; omega), HSN.out.2, by
                  have t1 := T11.out.step (i := 1) rfl (Turn.cell (show Blk w10 gb _ (bldCells gs xs count) from T11.out.get (i := 1) rfl) 0 (.pointer (some ⟨gn, 0, none⟩)))
                  have t2 := t1.step (i := 1) rfl (Turn.cell (t1.get (i := 1) rfl) 1 (.int .i64 xs))
                  have t3 := (t2.by_ 6 rfl [5, 1, 0, 2, 3, 4] (by decide)).sub (M := [_, _]) (List.Sublist.cons_cons _ (List.Sublist.cons_cons _ (List.nil_sublist _)))
                  rw [← HGN.out]; exact t3.go (Below.refl _ _).drew⟩)
                rw [← hgn]
                clear h1 hgn hok' hv' t T11
                go_wp2_with fail
                go_region
                go_wp2
                go_ret
                exact HRE.out
            · have HF := Lib.hid (HCF.out.trans (if_neg (fun h => hr2 (HR2.out.trans h.2.2.2))))
              have HR6 := Lib.hid (HNT.out _ HF.out ((HTE.out.go HB9.out).sub (List.Sublist.cons_cons _ (List.Sublist.cons_cons _ (List.nil_sublist _)))))
              have d0 : decide (R = 0) = false := decide_eq_false hr2
              go_wp2
              go_ret
              exact HR6.out
          · have b2 : (xn == (m : Int)) = false := beq_false_of_ne k2
            have d2 : decide (xn = (m : Int)) = false := decide_eq_false k2
            have HF := Lib.hid (HCF.out.trans (if_neg (fun h => k2 h.2.2.1)))
            have HR6 := Lib.hid (HNT.out _ HF.out ((HTE.out.go hbA).sub (List.Sublist.cons_cons _ (List.Sublist.cons_cons _ (List.nil_sublist _)))))
            go_wp2
            go_ret
            exact HR6.out
        · have b2 : (xs == st) = false := beq_false_of_ne k1
          have d2 : decide (xs = st) = false := decide_eq_false k1
          have HF := Lib.hid (HCF.out.trans (if_neg (fun h => k1 h.2.1)))
          have HR6 := Lib.hid (HNT.out _ HF.out ((HTE.out.go hbA).sub (List.Sublist.cons_cons _ (List.Sublist.cons_cons _ (List.nil_sublist _)))))
          go_wp2
          go_ret
          exact HR6.out
      · have b2 : (xk == 6) = false := beq_false_of_ne k6
        have d2 : decide (xk = 6) = false := decide_eq_false k6
        have HF := Lib.hid (HCF.out.trans (if_neg (fun h => k6 h.1)))
        have HR6 := Lib.hid (HNT.out _ HF.out ((HTE.out.go hbA).sub (List.Sublist.cons_cons _ (List.Sublist.cons_cons _ (List.nil_sublist _)))))
        go_wp2
        go_ret
        exact HR6.out
end Go.Proofs.YtmnpchncmbnddaaGreat
