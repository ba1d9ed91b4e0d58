/- Contracts and plain laws that this claim leans on, laid together: Stor5, Clk, Com1, Com2, Com3. -/
import Derived.Test.YtoecgkdipgaaeaaG11
import Derived.Deep.RegionLaw
import Derived.Test.YtoecgkdipgaaeaaG08
import Derived.BigQuiet
set_option linter.all false
set_option linter.unusedVariables false
set_option linter.unusedSimpArgs false
set_option linter.unnecessarySimpa false
/- Stores: New, Apply, by contract. -/
attribute [local go_sem ↓] Go.wp_at_zero Go.wp_at_succ
namespace Go.Proofs.Ytoecgkdipgaaeaa
open Go.RowKit

/-- What refuses a version; 0: nothing. -/
def St.errOf (s : St) (v : Vn) : Int :=
  if v.bad ≠ 0 then v.bad else if 0 < (Ch.ofO (getA v.key.data.toList s.cs)).length ∧ v.stamp ≤ (lastL (Ch.ofO (getA v.key.data.toList s.cs))).x.st then 130 else 0
def ApplyPost (s : St) (v : Vn) (N : Nat) (w : World) (e : Ending) (w' : World) : Prop :=
  e = .returned (.int .i64 (s.errOf v)) ∧
    (s.errOf v ≠ 0 ∧ Below w.heap.size w w' ∨
     s.errOf v = 0 ∧ ∃ (c : Ch) (l : Lk) (lv : Int), c.ls = Ch.ofO (getA v.key.data.toList s.cs) ++ [l] ∧ l.x = ⟨v.stamp, v.value, v.dead⟩ ∧
       (St.mk s.gs s.gm lv (putA v.key.data.toList c s.cs)).ok (N + 1) ∧ Turn s.item w (St.item ⟨s.gs, s.gm, lv, putA v.key.data.toList c s.cs⟩) w')
theorem stown_n {w : World} {B c n : Nat} {A : Option Addr} {l : List UInt8} (hr : BReads w B A l) (hl : l.length ≤ 140737488355328) (hn : n = l.length) :
    Calls Try.prog 54 #[.slice A n c] w fun e w' => ∃ A2 c2, e = .returned (.slice A2 n c2) ∧ BOwns w' w.heap.size (.slice A2 n c2) l ∧ Below w.heap.size w w' := by
  subst hn
  refine (stown_any hr hl).mono ?_
  rintro e w2 ⟨v2, rfl, ho, hb⟩
  obtain ⟨A2, c2, rfl, _, _⟩ := BOwns.slice ho
  exact ⟨A2, c2, rfl, ho, hb⟩
/-- Add's outcomes. -/
def AddOut (h : Ch) (l : Lk) (w : World) (e : Ending) (w' : World) : Prop :=
  ∃ m : Int, e = .returned (.int .i64 m) ∧ (m = 130 ∧ AddBad h l ∧ Below w.heap.size w w' ∨ m = 0 ∧ ¬ AddBad h l ∧ ∃ A' c', Turn h.core w (Ch.core ⟨h.g, A', c', h.ls ++ [l]⟩) w')
theorem cadd_n {w : World} {h : Ch} (hp : h.item.P w) (hn : h.ls.length ≤ 1099511627775) (l : Lk) {st : Int} {A : Option Addr} {n c : Nat} {d : Bool} (hl : l.cells = [.int .i64 st, .slice A n c, .bool d]) :
    Calls Try.prog 65 #[.pointer (some ⟨h.g, 0, none⟩), .agg #[.int .i64 st, .slice A n c, .bool d]] w (AddOut h l w) := by
  have := cadd_any hp hn l
  rw [hl] at this
  refine this.mono ?_
  rintro e w' (⟨h1, rfl, h2⟩ | ⟨h1, rfl, A', c', t⟩)
  · exact ⟨130, rfl, .inl ⟨rfl, h1, h2⟩⟩
  · exact ⟨0, rfl, .inr ⟨rfl, h1, A', c', t⟩⟩
theorem addOut_keeps {w w' : World} {h : Ch} {l : Lk} {m : Int} (hm : m = 130 ∧ AddBad h l ∧ Below w.heap.size w w' ∨ m = 0 ∧ ¬ AddBad h l ∧ ∃ A' c', Turn h.core w (Ch.core ⟨h.g, A', c', h.ls ++ [l]⟩) w') : Keeps h.core.own w w' := by
  rcases hm with ⟨_, _, hb⟩ | ⟨_, _, A', c', t⟩
  · exact Keeps.of_below hb _
  · exact t.k
theorem core_own {h : Ch} {k : Nat} (hk : h.core.own k) : h.item.own k := by
  obtain ⟨i, hi, ho⟩ := hk
  simp only [List.mem_cons, List.not_mem_nil, or_false] at hi
  rcases hi with rfl | rfl
  · exact ⟨_, List.mem_cons_self .., ho⟩
  · exact ⟨_, List.mem_cons_of_mem _ (List.mem_cons_self ..), ho⟩
theorem errOf_0 {s : St} {key : ByteArray} {st : Int} {val : List UInt8} {dd : Bool} {C0 : Ch} {l : Lk} (hb : 0 = Vn.bad ⟨key, st, val, dd⟩) (hc : C0.ls = Ch.ofO (getA key.data.toList s.cs)) (hl : l.x = ⟨st, val, dd⟩) (hn : ¬ AddBad C0 l) : s.errOf ⟨key, st, val, dd⟩ = 0 := by
  unfold St.errOf
  rw [if_neg (by rw [← hb]; simp), if_neg]
  rintro ⟨h1, h2⟩
  refine hn (.inr ?_)
  rw [hc, hl]
  exact ⟨h1, h2⟩
theorem errOf_130 {s : St} {key : ByteArray} {st : Int} {val : List UInt8} {dd : Bool} {C0 : Ch} {l : Lk} (hb : 0 = Vn.bad ⟨key, st, val, dd⟩) (hc : C0.ls = Ch.ofO (getA key.data.toList s.cs)) (hl : l.x = ⟨st, val, dd⟩) (h0 : 0 ≤ st) (hn : AddBad C0 l) : s.errOf ⟨key, st, val, dd⟩ = 130 := by
  unfold St.errOf
  rw [if_neg (by rw [← hb]; simp), if_pos]
  unfold AddBad at hn
  rw [hc, hl] at hn
  rcases hn with h | h
  · exact absurd h (by simp only; omega)
  · exact h
set_option maxRecDepth 100000 in
set_option maxHeartbeats 3200000 in
theorem snew_any {w : World} : Calls Try.prog 29 #[] w fun e w' => ∃ gs gm, e = .returned (.pointer (some ⟨gs, 0, none⟩)) ∧ (St.mk gs gm 0 []).ok 0 ∧ Turn (Item.all []) w (St.item ⟨gs, gm, 0, []⟩) w' := by
  have hmm := @run_makeMap Try.prog
  have HM := Lib.hid (World.ownsMap_made (H := Unit) w Try.prog 9 chR)
  have BM := Lib.hid ((Below.refl w.heap.size w).alloc (Nat.le_refl _) (.map #[] 0))
  go_enter Try.func29, Try.ntmps29
  go_wp2
  go_ret
  refine ⟨w.heap.size + 1, w.heap.size, rfl, ⟨List.Pairwise.nil, Nat.le_refl 0, fun p hp => (by cases hp), rfl⟩, ?_⟩
  have t1 := (Turn.none_ (w := w)).more (y := Item.map w.heap.size []) BM.out HM.out (fun k hk => Nat.le_of_eq hk.symm)
  have t2 := t1.more (y := Item.blk (w.heap.size + 1) 118 #[.map (some w.heap.size), .int .i64 0]) (w'' := (w.alloc (.map #[] 0)).alloc (.cells #[.map (some w.heap.size), .int .i64 0] 118)) ((Below.refl _ _).alloc (Nat.le_refl _) _) (by
    have := Blk.new (w.alloc (.map #[] 0)) 118 #[.map (some w.heap.size), .int .i64 0]
    rw [show (w.alloc (.map #[] 0)).heap.size = w.heap.size + 1 from by simp] at this
    exact this) (fun k hk => by
    have hk : k = w.heap.size + 1 := hk
    subst hk; simp)
  exact t2
set_option maxRecDepth 100000 in
set_option maxHeartbeats 6400000 in
theorem apply_any {w : World} {s : St} {N : Nat} (h : s.item.P w) (hok : s.ok N) (hN : N ≤ 1099511627775) {A : Option Addr} {c : Nat} (v : Vn) (hr : BReads w w.heap.size A v.value) (hks : v.key.size ≤ maxLen) (hvs : v.value.length ≤ 140737488355328) :
    Calls Try.prog 31 #[.pointer (some ⟨s.gs, 0, none⟩), .agg (v.cells A c)] w (ApplyPost s v N w) := by
  have HP := Lib.hid h
  have HOK := Lib.hid hok
  have HR := Lib.hid hr
  have HMAY := Lib.hid (fun (w : World) => stmay_any (w := w) (A := A) (c := c) v)
  obtain ⟨key, st, val, dd⟩ := v
  simp only [Vn.cells] at HMAY hks hvs HR ⊢
  obtain ⟨bad, hbad⟩ : ∃ b, b = Vn.bad ⟨key, st, val, dd⟩ := ⟨_, rfl⟩
  have HBAD := Lib.hid hbad
  rw [← hbad] at HMAY
  clear h hok hr hbad
  obtain ⟨vn, hvn⟩ : ∃ n, n = val.length := ⟨_, rfl⟩
  have HVN := Lib.hid hvn
  rw [← hvn] at HMAY hvs ⊢
  clear hvn
  have B1 := Lib.hid ((Below.refl w.heap.size w).alloc (Nat.le_refl _) (.cells #[.string key, .int .i64 st, .slice A vn c, .bool dd] 33))
  have K1 := Lib.hid (Blk.new w 33 #[.string key, .int .i64 st, .slice A vn c, .bool dd])
  have qM : ∀ (w : World) (r : Option Nat), (binOp .eql 116 (.map r) (.map none)).run Try.prog w = .ok (.bool r.isNone) w := fun w r => run_eql_map_nil w _ _ _ r Try.underlying116
  go_enter Try.func31, Try.ntmps31
  go_wp2_with fail
  obtain ⟨W, hW⟩ : ∃ W, W = w.alloc (.cells #[.string key, .int .i64 st, .slice A vn c, .bool dd] 33) := ⟨_, rfl⟩
  rw [← hW] at B1 K1 ⊢
  clear hW
  refine (HMAY.out W).mono ?_
  rintro e w2 ⟨rfl, hb⟩
  have B2 := Lib.hid (B1.out.trans (hb.mono B1.out.size))
  have K2 := Lib.hid (K1.out.below' hb)
  clear hb B1 K1 HMAY
  by_cases h0 : bad = 0
  case neg =>
    have d0 : decide (bad = 0) = false := decide_eq_false h0
    go_wp2
    go_ret
    have e : s.errOf ⟨key, st, val, dd⟩ = bad := by unfold St.errOf; rw [← HBAD.out, if_pos h0]
    exact ⟨by rw [e]; rfl, .inl ⟨by rw [e]; exact h0, B2.out⟩⟩
  case pos =>
    subst h0
    obtain ⟨hk1, hk2, hv4, hvd, hst0, hst1⟩ := bad_0 HBAD.out.symm
    simp only at hk1 hk2 hv4 hvd hst0 hst1
    rw [← HVN.out] at hv4
    have HST := Lib.hid (show 0 ≤ st ∧ st ≤ 4611686018427387904 from ⟨hst0, hst1⟩)
    have HK1 := Lib.hid (show key.size ≤ 255 from hk2)
    obtain ⟨T, hT⟩ : ∃ T, T = w.heap.size := ⟨_, rfl⟩
    have HT := Lib.hid hT
    rw [← hT] at K2 ⊢
    have T2 : Hid (Turn s.item w (Item.all [Item.blk T 33 #[.string key, .int .i64 st, .slice A vn c, .bool dd], s.item]) w2) := Lib.hid ((Turn.one (Turn.refl HP.out)).more B2.out K2.out (fun k hk => by
      have hk : k = T := hk
      omega))
    have k0 := K2.out.cell 0
    simp at k0
    have HOF := Lib.hid (sof_any (s := s) (key := key) (Item.go HP.out B2.out) (Nat.le_trans hk2 (by decide)))
    clear hT hk1 hvd hst0 hst1
    cases hg : getA key.data.toList s.cs with
    | none =>
      rw [hg, show ptrC none = .pointer none from rfl] at HOF
      have HG := Lib.hid hg
      have T3 := Lib.hid (T2.out.sameR (split_none hg))
      have HC0 : Hid ((Ch.mk w2.heap.size none 0 []).ls = Ch.ofO (getA key.data.toList s.cs)) := Lib.hid (by rw [hg]; rfl)
      clear hg
      go_wp2_with fail
      refine HOF.out.mono ?_
      rintro e w3 ⟨rfl, rfl⟩
      go_upto_region 9 with fail
      obtain ⟨X, hX⟩ : ∃ X, X = w2.alloc (.cells #[.slice none 0 0] 122) := ⟨_, rfl⟩
      have T4 : Hid (Turn s.item w (Item.all ((Ch.mk w2.heap.size none 0 []).item :: _)) X) := Lib.hid (by
        have hKX : Blk X w2.heap.size 122 #[.slice none 0 0] := by rw [hX]; exact Blk.new w2 _ _
        have hbX : Below w2.heap.size w2 X := by rw [hX]; exact (Below.refl _ _).alloc (Nat.le_refl _) _
        refine T3.out.more hbX ?_ ?_
        · refine ⟨fun i hi => ?_, ?_⟩
          · have hi : i ∈ [Item.blk w2.heap.size 122 #[.slice none 0 0], Item.rowT 96 3 (.slice none 0 0) 0 []] := hi
            simp only [List.mem_cons, List.not_mem_nil, or_false] at hi
            rcases hi with rfl | rfl
            · exact hKX
            · exact ⟨rfl, .inl ⟨rfl, rfl⟩⟩
          · show List.Pairwise _ [Item.blk w2.heap.size 122 #[.slice none 0 0], Item.rowT 96 3 (.slice none 0 0) 0 []]
            refine List.pairwise_cons.2 ⟨fun j hj k _ h2 => ?_, List.pairwise_singleton _ _⟩
            simp only [List.mem_cons, List.not_mem_nil, or_false] at hj
            subst hj
            cases h2
        · rintro k ⟨i, hi, ho⟩
          have hi : i ∈ [Item.blk w2.heap.size 122 #[.slice none 0 0], Item.rowT 96 3 (.slice none 0 0) 0 []] := hi
          simp only [List.mem_cons, List.not_mem_nil, or_false] at hi
          rcases hi with rfl | rfl
          · exact Nat.le_of_eq ho.symm
          · cases ho)
      have BX : Hid (Below w.heap.size w X) := Lib.hid (by rw [hX]; exact B2.out.alloc B2.out.size _)
      obtain ⟨C0, hC0⟩ : ∃ C0, C0 = Ch.mk w2.heap.size none 0 [] := ⟨_, rfl⟩
      have HC4 : Hid (∀ l ∈ C0.ls, l.x.v.length ≤ 4096) := Lib.hid (by rw [hC0]; intro l hl; cases hl)
      have HCN : Hid (C0.ls.length ≤ 1099511627775) := Lib.hid (by rw [hC0]; exact Nat.zero_le _)
      rw [← hX, show w2.heap.size = C0.g from by rw [hC0]]
      rw [← hC0] at T4
      have HC0 : Hid (C0.ls = Ch.ofO (getA key.data.toList s.cs)) := Lib.hid (by rw [hC0]; exact HC0.out)
      clear hX hC0 T3 K2 k0 T2
      obtain ⟨b, hb⟩ : ∃ b, b = weightL key.size C0.ls := ⟨_, rfl⟩
      have HB := Lib.hid hb
      have hb43 : b ≤ 4351 := by rw [hb]; exact weightL_le HK1.out HC4.out
      have HW : Hid (Calls Try.prog 64 #[.pointer (some ⟨s.gs, 0, none⟩), .string key] X fun e w' => e = .returned (.int .i64 b) ∧ Below X.heap.size X w') := Lib.hid (by
        have := weight_any (so := some s) (key := key) (HOK.out.o (by omega) (Item.go HP.out BX.out)) hk2
        rw [show St.getO (some s) key = getA key.data.toList s.cs from rfl, ← HC0.out, ← hb] at this
        exact this)
      have y := (show Blk X T 33 #[.string key, .int .i64 st, .slice A vn c, .bool dd] from T4.out.get (i := 1) rfl).cell 0
      simp at y
      clear hb
      go_wp2_with fail
      refine HW.out.mono ?_
      rintro e w4 ⟨rfl, hb4⟩
      have T5 := Lib.hid ((T4.out.go hb4).go (Below.refl _ _).drew)
      have B5 := Lib.hid (BX.out.trans (hb4.mono BX.out.size)).drew
      clear hb4 y HW T4
      go_upto_region 10 with fail
      have KB := Lib.hid (show Blk w4.drew T 33 #[.string key, .int .i64 st, .slice A vn c, .bool dd] from T5.out.get (i := 1) rfl)
      have y0 := KB.out.cell 0
      have y1 := KB.out.cell 1
      have y2 := KB.out.cell 2
      have y3 := KB.out.cell 3
      simp at y0 y1 y2 y3
      have HRD := Lib.hid (HR.out.below B5.out)
      have HVL := Lib.hid (show val.length ≤ 140737488355328 from by have := HVN.out; omega)
      go_region_held3 (fun w' => w'.cell? ⟨T, 0, none⟩ = some (.string key) ∧ w'.cell? ⟨T, 1, none⟩ = some (.int .i64 st) ∧ w'.cell? ⟨T, 2, none⟩ = some (.slice A vn c) ∧ w'.cell? ⟨T, 3, none⟩ = some (.bool dd)) (first | (with_reducible exact ⟨y0, y1, y2, y3⟩) | (with_reducible exact ⟨x0, x1, x2, x3⟩) | (with_reducible exact ⟨z0, z1, z2, z3⟩) | go_keep) (first | (go_at_call 54; refine (stown_n (w := w4.drew) HRD.out HVL.out HVN.out).mono ?_; rintro e w5 ⟨A2, c2, rfl, ho, hb5⟩; have B6 := Lib.hid (B5.out.trans (hb5.mono B5.out.size)); have T6 := Lib.hid (T5.out.more (y := Lk.item ⟨⟨st, val, dd⟩, A2, c2⟩) hb5 (by rw [HVN.out] at ho; exact owns_less ho (Nat.zero_le _)) (fun k hk => (ho.lt (by rw [HVN.out]; exact hk)).1)); have KB5 := Lib.hid (show Blk w5 T 33 #[.string key, .int .i64 st, .slice A vn c, .bool dd] from T6.out.get (i := 2) rfl); have x0 := KB5.out.cell 0; have x1 := KB5.out.cell 1; have x2 := KB5.out.cell 2; have x3 := KB5.out.cell 3; simp at x0 x1 x2 x3; have HLC : Hid (Lk.cells ⟨⟨st, val, dd⟩, A2, c2⟩ = [.int .i64 st, .slice A2 vn c2, .bool dd]) := Lib.hid (by rw [HVN.out]; rfl); clear ho hb5) | (go_at_call 65; refine (cadd_n (w := w5) (h := C0) (T6.out.get (i := 1) rfl) HCN.out ⟨⟨st, val, dd⟩, A2, c2⟩ HLC.out).mono ?_; rintro e w6 ⟨m, rfl, hm⟩; have HM := Lib.hid hm; have KB6 := Lib.hid (show Blk w6 T 33 #[.string key, .int .i64 st, .slice A vn c, .bool dd] from Item.far (x := Item.blk T 33 #[.string key, .int .i64 st, .slice A vn c, .bool dd]) KB5.out (addOut_keeps hm) (fun k hk hk2 => (List.pairwise_cons.1 (List.pairwise_cons.1 T6.out.p.2).2).1 _ (List.mem_cons_self ..) k (core_own hk2) hk)); have z0 := KB6.out.cell 0; have z1 := KB6.out.cell 1; have z2 := KB6.out.cell 2; have z3 := KB6.out.cell 3; simp at z0 z1 z2 z3; clear hm))
      rcases HM.out with ⟨rfl, hbad, hb6⟩ | ⟨rfl, hgood, A', c', t⟩
      · have BE := Lib.hid ((T6.out.k.trans (Keeps.of_below hb6 (fun _ => False)) (fun _ h => h.elim)))
        have e := errOf_130 (l := ⟨⟨st, val, dd⟩, A2, c2⟩) HBAD.out HC0.out rfl HST.out.1 hbad
        have BB := Lib.hid (B6.out.trans (hb6.mono B6.out.size))
        clear HM hbad hb6
        go_wp2
        go_ret
        exact ⟨by rw [e]; rfl, .inl ⟨by rw [e]; decide, BB.out⟩⟩
      · have e := errOf_0 (l := ⟨⟨st, val, dd⟩, A2, c2⟩) HBAD.out HC0.out rfl hgood
        have HE := Lib.hid e
        have T7 := Lib.hid (T6.out.trans (add_pieces (h := C0) (h' := ⟨C0.g, A', c', C0.ls ++ [⟨⟨st, val, dd⟩, A2, c2⟩]⟩) (l := ⟨⟨st, val, dd⟩, A2, c2⟩) rfl T6.out.p t))
        obtain ⟨C1, hC1⟩ : ∃ C1, C1 = Ch.mk C0.g A' c' (C0.ls ++ [⟨⟨st, val, dd⟩, A2, c2⟩]) := ⟨_, rfl⟩
        have HC1 := Lib.hid hC1
        rw [← hC1] at T7
        have m0 := (show Blk w6 s.gs 118 #[.map (some s.gm), .int .i64 s.live] from T7.out.get (i := 2) rfl).cell 0
        simp at m0
        clear HM hgood t e hC1 x0 x1 x2 x3 y0 y1 y2 y3
        go_upto_region 15 with fail
        have hmp : (Item.map s.gm (mapA Ch.g s.cs)).P w6.drew := (T7.out.go (Below.refl _ _).drew).get (i := 3) rfl
        obtain ⟨w7, hrun, hown7, hgr7⟩ := World.ownsMap.update (w := w6.drew) hmp (Go.Maps.string_keyed Try.underlying9) Try.underlying116 (n := (mapA Ch.g s.cs).length) (by
          have := HOK.out.many
          unfold mapA maxLen; rw [List.length_map]; omega) (key := .string key) (val := .pointer (some ⟨C0.g, 0, none⟩)) (WideMaps.keyOf_string_mk Try.underlying9 hks) (d := .lit (.int .i64 C0.g)) (ps := []) rfl
        rw [dS_put] at hown7
        have T8 := Lib.hid ((T7.out.go (Below.refl _ _).drew).step (i := 3) rfl (map_turn (w := w6.drew) (w' := w7) hmp hown7 hgr7))
        clear hown7 hgr7 hmp
        go_region
        clear hrun m0
        have hg1 : C1.g = C0.g := by rw [HC1.out]
        have T9 : Hid (Turn s.item w (Item.all (C1.item :: Item.blk T 33 #[.string key, .int .i64 st, .slice A vn c, .bool dd] :: Item.blk s.gs 118 #[.map (some s.gm), .int .i64 s.live] :: Item.map s.gm (mapA Ch.g (putA key.data.toList C1 s.cs)) :: s.rest key.data.toList)) w7) := Lib.hid (by
          have := T8.out
          rw [← hg1, ← putA_map] at this
          exact this)
        have hls : C1.ls = Ch.ofO (getA key.data.toList s.cs) ++ [⟨⟨st, val, dd⟩, A2, c2⟩] := by rw [HC1.out, ← HC0.out]
        have HLS := Lib.hid hls
        obtain ⟨lvn, hlvn⟩ : ∃ x, x = liveN (putA key.data.toList C1 s.cs) := ⟨_, rfl⟩
        have OK2 := Lib.hid (ok_put (s := s) (N := N) HOK.out (k := key.data.toList) (c := C1) (l := ⟨⟨st, val, dd⟩, A2, c2⟩) (lv := (lvn : Nat)) HK1.out hls (by have := HVN.out; show val.length ≤ 4096; omega) (by rw [hlvn]))
        obtain ⟨a, ha⟩ : ∃ a, a = weightL key.size C1.ls := ⟨_, rfl⟩
        have ha43 : a ≤ 4351 := by
          rw [ha]
          exact weightL_le HK1.out (fun l hl => (OK2.out.each _ (getA_mem getA_put)).2.2.2 l hl)
        have HW2 : Hid (Calls Try.prog 64 #[.pointer (some ⟨s.gs, 0, none⟩), .string key] w7.drew fun e w' => e = .returned (.int .i64 a) ∧ Below w7.heap.size w7.drew w') := Lib.hid (by
          have hp2 : (St.item ⟨s.gs, s.gm, s.live, putA key.data.toList C1 s.cs⟩).P w7.drew := ((T9.out.sameR join_put).go (Below.refl _ _).drew).get (i := 1) rfl
          have := weight_any (w := w7.drew) (so := some ⟨s.gs, s.gm, s.live, putA key.data.toList C1 s.cs⟩) (key := key) ⟨hp2, fun p hp => by
            obtain ⟨_, _, h3, h4⟩ := OK2.out.each p hp
            exact ⟨by omega, h4⟩⟩ hk2
          rw [show St.getO (some ⟨s.gs, s.gm, s.live, putA key.data.toList C1 s.cs⟩) key = getA key.data.toList (putA key.data.toList C1 s.cs) from rfl, getA_put, show Ch.ofO (some C1) = C1.ls from rfl, ← ha] at this
          exact this)
        have hO1 := liveN_get (k := key.data.toList) HOK.out.apart
        have hO2 := liveN_put (cs := s.cs) (k := key.data.toList) (c := C1)
        rw [show key.data.toList.length = key.size from rfl, ← HC0.out, ← HB.out] at hO1
        rw [show key.data.toList.length = key.size from rfl, ← ha, ← hlvn] at hO2
        have hlv0 := HOK.out.live
        have hlvb := liveN_le (cs := s.cs) (fun p hp => ⟨(HOK.out.each p hp).1, (HOK.out.each p hp).2.2.2⟩)
        have hmany := HOK.out.many
        have hlvs : s.live + ((a : Int) - (b : Int)) = (lvn : Int) := by rw [hlv0]; omega
        have hlv1 : 0 ≤ s.live ∧ s.live ≤ 4785074604081152 := by rw [hlv0]; omega
        obtain ⟨lvo, hlvo⟩ : ∃ x, x = s.live := ⟨_, rfl⟩
        rw [← hlvo] at hlvs hlv1 T9
        have HWR := Lib.hid (show IntKind.i64.wrap (lvo + IntKind.i64.wrap ((a : Int) - (b : Int))) = (lvn : Int) from by
          rw [show IntKind.i64.wrap ((a : Int) - (b : Int)) = (a : Int) - (b : Int) from by rw [IntKind.wrap_i64]; omega, IntKind.wrap_i64]; omega)
        have KBS := Lib.hid (show Blk w7 s.gs 118 #[.map (some s.gm), .int .i64 lvo] from T9.out.get (i := 2) rfl)
        have KBX := Lib.hid (show Blk w7 T 33 #[.string key, .int .i64 st, .slice A vn c, .bool dd] from T9.out.get (i := 1) rfl)
        have y1 : w7.drew.cell? ⟨s.gs, 1, none⟩ = some (.int .i64 lvo) := by have := KBS.out.cell 1; simpa using this
        have yf : w7.drew.frozen? ⟨s.gs, 1, none⟩ = false := KBS.out.frozen 1
        have y0 : w7.drew.cell? ⟨T, 0, none⟩ = some (.string key) := by have := KBX.out.cell 0; simpa using this
        obtain ⟨hlva, hlvc⟩ := hlv1
        have TT : Hid (∀ (w8 : World) (z : Int), Below w7.heap.size w7 w8 → z = (lvn : Nat) → Turn s.item w (St.item ⟨s.gs, s.gm, (lvn : Nat), putA key.data.toList C1 s.cs⟩) (w8.setCell ⟨s.gs, 1, none⟩ (.int .i64 z))) := Lib.hid (fun w8 z hb e => by
          subst e
          have t1 := T9.out.go hb
          have t2 := t1.step (i := 2) rfl (Turn.cell (show Blk w8 s.gs 118 #[.map (some s.gm), .int .i64 lvo] from t1.get (i := 2) rfl) 1 (.int .i64 ((lvn : Nat) : Int)))
          have t3 := t2.sameR (join_put (lv := (lvn : Nat)))
          exact (t3.sub (M := [St.item ⟨s.gs, s.gm, (lvn : Nat), putA key.data.toList C1 s.cs⟩]) (List.Sublist.cons _ (List.Sublist.refl _))).sameR same_one)
        clear hg1 T8 hls hlvn ha hO1 hO2 hlv0 hlvb hmany hlvs hlvo z0 z1 z2 z3
        go_upto_region 16 with fail
        go_region_law ((go_simp; go_at_call 64; refine HW2.out.mono ?_; rintro e w8 ⟨rfl, hb8⟩; have HB8 := Lib.hid (show Below w7.heap.size w7 w8 from ⟨hb8.os, hb8.tape, hb8.output, hb8.size, hb8.block⟩); have x1 := (hb8.cell (p := ⟨s.gs, 1, none⟩) KBS.out.lt).trans y1; have xf := (hb8.frozen (p := ⟨s.gs, 1, none⟩) KBS.out.lt).trans yf; have x0 := (hb8.cell (p := ⟨T, 0, none⟩) KBX.out.lt).trans y0; clear hb8))
        all_goals clear y0 y1 yf
        all_goals go_wp2
        all_goals go_ret
        all_goals refine ⟨by rw [HE.out]; rfl, Or.inr ⟨HE.out, C1, ⟨⟨st, val, dd⟩, A2, c2⟩, (lvn : Nat), HLS.out, rfl, OK2.out, ?_⟩⟩
        all_goals exact TT.out _ _ HB8.out HWR.out
    | some C0 =>
      rw [hg, show ptrC (some C0) = .pointer (some ⟨C0.g, 0, none⟩) from rfl] at HOF
      have HG := Lib.hid hg
      have T3 := Lib.hid (T2.out.sameR (split_some HOK.out.apart hg))
      have HC0 : Hid (C0.ls = Ch.ofO (getA key.data.toList s.cs)) := Lib.hid (by rw [hg]; rfl)
      clear hg
      go_wp2_with fail
      refine HOF.out.mono ?_
      rintro e w3 ⟨rfl, rfl⟩
      go_upto_region 9 with fail
      obtain ⟨X, hX⟩ : ∃ X, X = w2 := ⟨_, rfl⟩
      have HC4 : Hid (∀ l ∈ C0.ls, l.x.v.length ≤ 4096) := Lib.hid (fun l hl => (HOK.out.each _ (getA_mem HG.out)).2.2.2 l hl)
      have HCN : Hid (C0.ls.length ≤ 1099511627775) := Lib.hid (Nat.le_trans (HOK.out.each _ (getA_mem HG.out)).2.2.1 hN)
      rw [← hX] at T3 B2 ⊢
      have T4 := T3
      have BX := B2
      clear hX T3 K2 k0 T2
      obtain ⟨b, hb⟩ : ∃ b, b = weightL key.size C0.ls := ⟨_, rfl⟩
      have HB := Lib.hid hb
      have hb43 : b ≤ 4351 := by rw [hb]; exact weightL_le HK1.out HC4.out
      have HW : Hid (Calls Try.prog 64 #[.pointer (some ⟨s.gs, 0, none⟩), .string key] X fun e w' => e = .returned (.int .i64 b) ∧ Below X.heap.size X w') := Lib.hid (by
        have := weight_any (so := some s) (key := key) (HOK.out.o (by omega) (Item.go HP.out BX.out)) hk2
        rw [show St.getO (some s) key = getA key.data.toList s.cs from rfl, ← HC0.out, ← hb] at this
        exact this)
      have y := (show Blk X T 33 #[.string key, .int .i64 st, .slice A vn c, .bool dd] from T4.out.get (i := 1) rfl).cell 0
      simp at y
      clear hb
      go_wp2_with fail
      refine HW.out.mono ?_
      rintro e w4 ⟨rfl, hb4⟩
      have T5 := Lib.hid ((T4.out.go hb4).go (Below.refl _ _).drew)
      have B5 := Lib.hid (BX.out.trans (hb4.mono BX.out.size)).drew
      clear hb4 y HW T4
      go_upto_region 10 with fail
      have KB := Lib.hid (show Blk w4.drew T 33 #[.string key, .int .i64 st, .slice A vn c, .bool dd] from T5.out.get (i := 1) rfl)
      have y0 := KB.out.cell 0
      have y1 := KB.out.cell 1
      have y2 := KB.out.cell 2
      have y3 := KB.out.cell 3
      simp at y0 y1 y2 y3
      have HRD := Lib.hid (HR.out.below B5.out)
      have HVL := Lib.hid (show val.length ≤ 140737488355328 from by have := HVN.out; omega)
      go_region_held3 (fun w' => w'.cell? ⟨T, 0, none⟩ = some (.string key) ∧ w'.cell? ⟨T, 1, none⟩ = some (.int .i64 st) ∧ w'.cell? ⟨T, 2, none⟩ = some (.slice A vn c) ∧ w'.cell? ⟨T, 3, none⟩ = some (.bool dd)) (first | (with_reducible exact ⟨y0, y1, y2, y3⟩) | (with_reducible exact ⟨x0, x1, x2, x3⟩) | (with_reducible exact ⟨z0, z1, z2, z3⟩) | go_keep) (first | (go_at_call 54; refine (stown_n (w := w4.drew) HRD.out HVL.out HVN.out).mono ?_; rintro e w5 ⟨A2, c2, rfl, ho, hb5⟩; have B6 := Lib.hid (B5.out.trans (hb5.mono B5.out.size)); have T6 := Lib.hid (T5.out.more (y := Lk.item ⟨⟨st, val, dd⟩, A2, c2⟩) hb5 (by rw [HVN.out] at ho; exact owns_less ho (Nat.zero_le _)) (fun k hk => (ho.lt (by rw [HVN.out]; exact hk)).1)); have KB5 := Lib.hid (show Blk w5 T 33 #[.string key, .int .i64 st, .slice A vn c, .bool dd] from T6.out.get (i := 2) rfl); have x0 := KB5.out.cell 0; have x1 := KB5.out.cell 1; have x2 := KB5.out.cell 2; have x3 := KB5.out.cell 3; simp at x0 x1 x2 x3; have HLC : Hid (Lk.cells ⟨⟨st, val, dd⟩, A2, c2⟩ = [.int .i64 st, .slice A2 vn c2, .bool dd]) := Lib.hid (by rw [HVN.out]; rfl); clear ho hb5) | (go_at_call 65; refine (cadd_n (w := w5) (h := C0) (T6.out.get (i := 1) rfl) HCN.out ⟨⟨st, val, dd⟩, A2, c2⟩ HLC.out).mono ?_; rintro e w6 ⟨m, rfl, hm⟩; have HM := Lib.hid hm; have KB6 := Lib.hid (show Blk w6 T 33 #[.string key, .int .i64 st, .slice A vn c, .bool dd] from Item.far (x := Item.blk T 33 #[.string key, .int .i64 st, .slice A vn c, .bool dd]) KB5.out (addOut_keeps hm) (fun k hk hk2 => (List.pairwise_cons.1 (List.pairwise_cons.1 T6.out.p.2).2).1 _ (List.mem_cons_self ..) k (core_own hk2) hk)); have z0 := KB6.out.cell 0; have z1 := KB6.out.cell 1; have z2 := KB6.out.cell 2; have z3 := KB6.out.cell 3; simp at z0 z1 z2 z3; clear hm))
      rcases HM.out with ⟨rfl, hbad, hb6⟩ | ⟨rfl, hgood, A', c', t⟩
      · have BE := Lib.hid ((T6.out.k.trans (Keeps.of_below hb6 (fun _ => False)) (fun _ h => h.elim)))
        have e := errOf_130 (l := ⟨⟨st, val, dd⟩, A2, c2⟩) HBAD.out HC0.out rfl HST.out.1 hbad
        have BB := Lib.hid (B6.out.trans (hb6.mono B6.out.size))
        clear HM hbad hb6
        go_wp2
        go_ret
        exact ⟨by rw [e]; rfl, .inl ⟨by rw [e]; decide, BB.out⟩⟩
      · have e := errOf_0 (l := ⟨⟨st, val, dd⟩, A2, c2⟩) HBAD.out HC0.out rfl hgood
        have HE := Lib.hid e
        have T7 := Lib.hid (T6.out.trans (add_pieces (h := C0) (h' := ⟨C0.g, A', c', C0.ls ++ [⟨⟨st, val, dd⟩, A2, c2⟩]⟩) (l := ⟨⟨st, val, dd⟩, A2, c2⟩) rfl T6.out.p t))
        obtain ⟨C1, hC1⟩ : ∃ C1, C1 = Ch.mk C0.g A' c' (C0.ls ++ [⟨⟨st, val, dd⟩, A2, c2⟩]) := ⟨_, rfl⟩
        have HC1 := Lib.hid hC1
        rw [← hC1] at T7
        have m0 := (show Blk w6 s.gs 118 #[.map (some s.gm), .int .i64 s.live] from T7.out.get (i := 2) rfl).cell 0
        simp at m0
        clear HM hgood t e hC1 x0 x1 x2 x3 y0 y1 y2 y3
        go_upto_region 15 with fail
        have hmp : (Item.map s.gm (mapA Ch.g s.cs)).P w6.drew := (T7.out.go (Below.refl _ _).drew).get (i := 3) rfl
        obtain ⟨w7, hrun, hown7, hgr7⟩ := World.ownsMap.update (w := w6.drew) hmp (Go.Maps.string_keyed Try.underlying9) Try.underlying116 (n := (mapA Ch.g s.cs).length) (by
          have := HOK.out.many
          unfold mapA maxLen; rw [List.length_map]; omega) (key := .string key) (val := .pointer (some ⟨C0.g, 0, none⟩)) (WideMaps.keyOf_string_mk Try.underlying9 hks) (d := .lit (.int .i64 C0.g)) (ps := []) rfl
        rw [dS_put] at hown7
        have T8 := Lib.hid ((T7.out.go (Below.refl _ _).drew).step (i := 3) rfl (map_turn (w := w6.drew) (w' := w7) hmp hown7 hgr7))
        clear hown7 hgr7 hmp
        go_region
        clear hrun m0
        have hg1 : C1.g = C0.g := by rw [HC1.out]
        have T9 : Hid (Turn s.item w (Item.all (C1.item :: Item.blk T 33 #[.string key, .int .i64 st, .slice A vn c, .bool dd] :: Item.blk s.gs 118 #[.map (some s.gm), .int .i64 s.live] :: Item.map s.gm (mapA Ch.g (putA key.data.toList C1 s.cs)) :: s.rest key.data.toList)) w7) := Lib.hid (by
          have := T8.out
          rw [← hg1, ← putA_map] at this
          exact this)
        have hls : C1.ls = Ch.ofO (getA key.data.toList s.cs) ++ [⟨⟨st, val, dd⟩, A2, c2⟩] := by rw [HC1.out, ← HC0.out]
        have HLS := Lib.hid hls
        obtain ⟨lvn, hlvn⟩ : ∃ x, x = liveN (putA key.data.toList C1 s.cs) := ⟨_, rfl⟩
        have OK2 := Lib.hid (ok_put (s := s) (N := N) HOK.out (k := key.data.toList) (c := C1) (l := ⟨⟨st, val, dd⟩, A2, c2⟩) (lv := (lvn : Nat)) HK1.out hls (by have := HVN.out; show val.length ≤ 4096; omega) (by rw [hlvn]))
        obtain ⟨a, ha⟩ : ∃ a, a = weightL key.size C1.ls := ⟨_, rfl⟩
        have ha43 : a ≤ 4351 := by
          rw [ha]
          exact weightL_le HK1.out (fun l hl => (OK2.out.each _ (getA_mem getA_put)).2.2.2 l hl)
        have HW2 : Hid (Calls Try.prog 64 #[.pointer (some ⟨s.gs, 0, none⟩), .string key] w7.drew fun e w' => e = .returned (.int .i64 a) ∧ Below w7.heap.size w7.drew w') := Lib.hid (by
          have hp2 : (St.item ⟨s.gs, s.gm, s.live, putA key.data.toList C1 s.cs⟩).P w7.drew := ((T9.out.sameR join_put).go (Below.refl _ _).drew).get (i := 1) rfl
          have := weight_any (w := w7.drew) (so := some ⟨s.gs, s.gm, s.live, putA key.data.toList C1 s.cs⟩) (key := key) ⟨hp2, fun p hp => by
            obtain ⟨_, _, h3, h4⟩ := OK2.out.each p hp
            exact ⟨by omega, h4⟩⟩ hk2
          rw [show St.getO (some ⟨s.gs, s.gm, s.live, putA key.data.toList C1 s.cs⟩) key = getA key.data.toList (putA key.data.toList C1 s.cs) from rfl, getA_put, show Ch.ofO (some C1) = C1.ls from rfl, ← ha] at this
          exact this)
        have hO1 := liveN_get (k := key.data.toList) HOK.out.apart
        have hO2 := liveN_put (cs := s.cs) (k := key.data.toList) (c := C1)
        rw [show key.data.toList.length = key.size from rfl, ← HC0.out, ← HB.out] at hO1
        rw [show key.data.toList.length = key.size from rfl, ← ha, ← hlvn] at hO2
        have hlv0 := HOK.out.live
        have hlvb := liveN_le (cs := s.cs) (fun p hp => ⟨(HOK.out.each p hp).1, (HOK.out.each p hp).2.2.2⟩)
        have hmany := HOK.out.many
        have hlvs : s.live + ((a : Int) - (b : Int)) = (lvn : Int) := by rw [hlv0]; omega
        have hlv1 : 0 ≤ s.live ∧ s.live ≤ 4785074604081152 := by rw [hlv0]; omega
        obtain ⟨lvo, hlvo⟩ : ∃ x, x = s.live := ⟨_, rfl⟩
        rw [← hlvo] at hlvs hlv1 T9
        have HWR := Lib.hid (show IntKind.i64.wrap (lvo + IntKind.i64.wrap ((a : Int) - (b : Int))) = (lvn : Int) from by
          rw [show IntKind.i64.wrap ((a : Int) - (b : Int)) = (a : Int) - (b : Int) from by rw [IntKind.wrap_i64]; omega, IntKind.wrap_i64]; omega)
        have KBS := Lib.hid (show Blk w7 s.gs 118 #[.map (some s.gm), .int .i64 lvo] from T9.out.get (i := 2) rfl)
        have KBX := Lib.hid (show Blk w7 T 33 #[.string key, .int .i64 st, .slice A vn c, .bool dd] from T9.out.get (i := 1) rfl)
        have y1 : w7.drew.cell? ⟨s.gs, 1, none⟩ = some (.int .i64 lvo) := by have := KBS.out.cell 1; simpa using this
        have yf : w7.drew.frozen? ⟨s.gs, 1, none⟩ = false := KBS.out.frozen 1
        have y0 : w7.drew.cell? ⟨T, 0, none⟩ = some (.string key) := by have := KBX.out.cell 0; simpa using this
        obtain ⟨hlva, hlvc⟩ := hlv1
        have TT : Hid (∀ (w8 : World) (z : Int), Below w7.heap.size w7 w8 → z = (lvn : Nat) → Turn s.item w (St.item ⟨s.gs, s.gm, (lvn : Nat), putA key.data.toList C1 s.cs⟩) (w8.setCell ⟨s.gs, 1, none⟩ (.int .i64 z))) := Lib.hid (fun w8 z hb e => by
          subst e
          have t1 := T9.out.go hb
          have t2 := t1.step (i := 2) rfl (Turn.cell (show Blk w8 s.gs 118 #[.map (some s.gm), .int .i64 lvo] from t1.get (i := 2) rfl) 1 (.int .i64 ((lvn : Nat) : Int)))
          have t3 := t2.sameR (join_put (lv := (lvn : Nat)))
          exact (t3.sub (M := [St.item ⟨s.gs, s.gm, (lvn : Nat), putA key.data.toList C1 s.cs⟩]) (List.Sublist.cons _ (List.Sublist.refl _))).sameR same_one)
        clear hg1 T8 hls hlvn ha hO1 hO2 hlv0 hlvb hmany hlvs hlvo z0 z1 z2 z3
        go_upto_region 16 with fail
        go_region_law ((go_simp; go_at_call 64; refine HW2.out.mono ?_; rintro e w8 ⟨rfl, hb8⟩; have HB8 := Lib.hid (show Below w7.heap.size w7 w8 from ⟨hb8.os, hb8.tape, hb8.output, hb8.size, hb8.block⟩); have x1 := (hb8.cell (p := ⟨s.gs, 1, none⟩) KBS.out.lt).trans y1; have xf := (hb8.frozen (p := ⟨s.gs, 1, none⟩) KBS.out.lt).trans yf; have x0 := (hb8.cell (p := ⟨T, 0, none⟩) KBX.out.lt).trans y0; clear hb8))
        all_goals clear y0 y1 yf
        all_goals go_wp2
        all_goals go_ret
        all_goals refine ⟨by rw [HE.out]; rfl, Or.inr ⟨HE.out, C1, ⟨⟨st, val, dd⟩, A2, c2⟩, (lvn : Nat), HLS.out, rfl, OK2.out, ?_⟩⟩
        all_goals exact TT.out _ _ HB8.out HWR.out
end Go.Proofs.Ytoecgkdipgaaeaa
/- Clocks: New, Now, Worn, Next, by contract. -/
namespace Go.Proofs.Ytoecgkdipgaaeaa
open Go.RowKit

/-- A clock. -/
def Item.clk (g : Nat) (now window : Int) : Item := Item.blk g 94 #[.int .i64 now, .int .i64 window]
set_option maxRecDepth 100000 in
theorem cnow_any {w : World} {g : Nat} {n k : Int} (h : (Item.clk g n k).P w) : Calls Try.prog 21 #[.pointer (some ⟨g, 0, none⟩)] w fun e w' => e = .returned (.int .i64 n) ∧ w = w' := by
  have q0 := (show Blk w g 94 #[.int .i64 n, .int .i64 k] from h).cell 0
  simp at q0
  clear h
  go_enter Try.func21, Try.ntmps21
  go_wp2
  go_ret
  exact ⟨rfl, rfl⟩
set_option maxRecDepth 100000 in
theorem cworn_any {w : World} {g : Nat} {n k : Int} (h : (Item.clk g n k).P w) : Calls Try.prog 80 #[.pointer (some ⟨g, 0, none⟩)] w fun e w' => e = .returned (.bool (decide (n = 4611686018427387904))) ∧ w = w' := by
  have q0 := (show Blk w g 94 #[.int .i64 n, .int .i64 k] from h).cell 0
  simp at q0
  clear h
  go_enter Try.func80, Try.ntmps80
  go_wp2
  go_ret
  exact ⟨by rfl, rfl⟩
set_option maxRecDepth 100000 in
set_option maxHeartbeats 1600000 in
theorem cnext_any {w : World} {g : Nat} {n k : Int} (h : (Item.clk g n k).P w) (h0 : 0 ≤ n) (h1 : n < 4611686018427387904) : Calls Try.prog 50 #[.pointer (some ⟨g, 0, none⟩)] w fun e w' => e = .returned (.tuple #[.int .i64 (n + 1), .int .i64 0]) ∧ Turn (Item.clk g n k) w (Item.clk g (n + 1) k) w' := by
  have HW := Lib.hid (cworn_any h)
  have KB := Lib.hid (show Blk w g 94 #[.int .i64 n, .int .i64 k] from h)
  have T := Lib.hid (Turn.cell KB.out 0 (.int .i64 (n + 1)))
  have q0 := KB.out.cell 0
  have f0 := KB.out.frozen 0
  have x0 := (show Blk (w.setCell ⟨g, 0, none⟩ (.int .i64 (n + 1))) g 94 #[.int .i64 (n + 1), .int .i64 k] from T.out.p).cell 0
  simp at q0 x0
  have d0 : decide (n = 4611686018427387904) = false := decide_eq_false (by omega)
  rw [d0] at HW
  clear h d0
  go_enter Try.func50, Try.ntmps50
  go_wp2_with fail
  refine HW.out.mono ?_
  rintro e w1 ⟨rfl, rfl⟩
  go_wp2
  go_ret2
  exact ⟨rfl, T.out⟩
set_option maxRecDepth 100000 in
set_option maxHeartbeats 1600000 in
theorem cnew_any {w : World} {n k : Int} (h0 : 0 ≤ n) (h1 : n ≤ 4611686018427387904) (h2 : 0 ≤ k) (h3 : k ≤ 1048576) : Calls Try.prog 43 #[.int .i64 n, .int .i64 k] w fun e w' => ∃ g, e = .returned (.tuple #[.pointer (some ⟨g, 0, none⟩), .int .i64 0]) ∧ Turn (Item.all []) w (Item.clk g n k) w' := by
  have KB := Lib.hid (Blk.new w 94 #[.int .i64 n, .int .i64 k])
  have B := Lib.hid ((Below.refl w.heap.size w).alloc (Nat.le_refl _) (.cells #[.int .i64 n, .int .i64 k] 94))
  have d0 : decide (n < 0) = false := decide_eq_false (by omega)
  have d1 : decide (4611686018427387904 < n) = false := decide_eq_false (by omega)
  have d2 : decide (k < 0) = false := decide_eq_false (by omega)
  have d3 : decide (1048576 < k) = false := decide_eq_false (by omega)
  clear h0 h1 h2 h3
  go_enter Try.func43, Try.ntmps43
  go_wp2
  go_ret2
  exact ⟨_, rfl, (Turn.none_.more (y := Item.clk w.heap.size n k) B.out KB.out (fun k hk => Nat.le_of_eq hk.symm)).sameR same_one⟩
end Go.Proofs.Ytoecgkdipgaaeaa
/- Commits: fits, anyAbove, Conflict, by contract. -/
namespace Go.Proofs.Ytoecgkdipgaaeaa
open Go.RowKit

theorem vn_at {w : World} {B : Nat} {A : Option Addr} {l : List Vn} (h : kVn.Sl w B A l) {i : Nat} (hi : i < l.length) :
    ∃ b off A' c', A = some ⟨b, off, none⟩ ∧ b < B ∧ (l[i]).ints ∧ w.cell? ⟨b, off + i * 4, none⟩ = some (.string (l[i]).key) ∧ w.cell? ⟨b, off + i * 4 + 1, none⟩ = some (.int .i64 (l[i]).stamp) ∧
      w.cell? ⟨b, off + i * 4 + 2, none⟩ = some (.slice A' (l[i]).value.length c') ∧ w.cell? ⟨b, off + i * 4 + 3, none⟩ = some (.bool (l[i]).dead) ∧ BReads w B A' (l[i]).value ∧ (l[i]).value.length ≤ c' := by
  obtain ⟨b, off, hA, hb, hr⟩ := h (by omega)
  obtain ⟨cs, hR, hc⟩ := hr i _ (List.getElem?_eq_getElem hi)
  obtain ⟨A', c', rfl, h1, h2, h3⟩ := vn_R hR
  exact ⟨b, off, A', c', hA, hb, h1, hc 0 _ rfl, hc 1 _ rfl, hc 2 _ rfl, hc 3 _ rfl, h2, h3⟩
/-- What is wrong with a write; 0: nothing. -/
def Vn.unfit (v : Vn) : Int := if v.key.size < 1 ∨ 255 < v.key.size then 140 else if 4096 < v.value.length ∨ v.dead = true ∧ 0 < v.value.length then 141 else 0
def fitsF (l : List Vn) : Int := match l.find? (fun v => decide (v.unfit ≠ 0)) with | some v => v.unfit | none => 0
theorem fitsF_all {l : List Vn} (h : ∀ v ∈ l, v.unfit = 0) : fitsF l = 0 := by
  unfold fitsF
  rw [List.find?_eq_none.2 (fun v hv => by simp [h v hv])]
theorem fitsF_at {l : List Vn} {K : Nat} (hK : K < l.length) (h : ∀ v ∈ l.take K, v.unfit = 0) (hn : (l[K]).unfit ≠ 0) : fitsF l = (l[K]).unfit := by
  unfold fitsF
  have e : l = l.take K ++ l[K] :: l.drop (K + 1) := by rw [← List.drop_eq_getElem_cons hK, List.take_append_drop]
  have h1 : (l.take K).find? (fun v => decide (v.unfit ≠ 0)) = none := List.find?_eq_none.2 (fun v hv => by simp [h v hv])
  have h2 : l.find? (fun v => decide (v.unfit ≠ 0)) = some l[K] := by
    conv => lhs; rw [e]
    rw [List.find?_append, h1, Option.none_or, List.find?_cons_of_pos (by simpa using hn)]
  rw [h2]
set_option maxRecDepth 100000 in
set_option maxHeartbeats 3200000 in
theorem cfits_any {w : World} {B : Nat} {A : Option Addr} {c : Nat} {l : List Vn} (hS : kVn.Sl w B A l) (hB : B ≤ w.heap.size) (hl : l.length ≤ 140737488355328) :
    Calls Try.prog 79 #[.slice A l.length c] w fun e w' => e = .returned (.int .i64 (fitsF l)) ∧ Below w.heap.size w w' := by
  have HS := Lib.hid hS
  obtain ⟨n, hn⟩ : ∃ n, n = l.length := ⟨_, rfl⟩
  have HN := Lib.hid hn
  rw [← hn] at hl ⊢
  obtain ⟨F, hF⟩ : ∃ F, F = fitsF l := ⟨_, rfl⟩
  have HF := Lib.hid hF
  rw [← hF]
  clear hS hn hF
  go_enter Try.func79, Try.ntmps79
  go_wp2
  go_loopw [7] (fun t wr => ∃ K : Nat, t = .int .i64 K ∧ K ≤ n ∧ Hid (∀ v ∈ l.take K, v.unfit = 0) ∧ Hid (Below w.heap.size w wr)) (fun t _ => n - (intOf t).toNat)
  case atStart => exact ⟨0, rfl, Nat.zero_le _, Lib.hid (fun v hv => by simp at hv), Lib.hid (Below.refl _ _)⟩
  case round =>
    obtain ⟨K, rfl, hK, hM, hB1⟩ := hrel
    by_cases hlt : (K : Int) < (n : Int)
    · have hKN : K < l.length := by have := HN.out; omega
      have hKn : K < n := by omega
      have hK1 : K + 1 ≤ n := by omega
      obtain ⟨bb, off, Av, cv, rfl, hbb, hints, s0, s1, s2, s3, hval, hvc⟩ := vn_at (HS.out.keep (fun p hp => hB1.out.cell (Nat.lt_of_lt_of_le hp hB))) hKN
      have HU : Hid ((l[K]).unfit = 0 → ∀ v ∈ l.take (K + 1), v.unfit = 0) := Lib.hid (fun hu v hv => by
        rw [List.take_succ_eq_append_getElem hKN] at hv
        rcases List.mem_append.1 hv with h | h
        · exact hM.out v h
        · simp only [List.mem_cons, List.not_mem_nil, or_false] at h; subst h; exact hu)
      have HNO : Hid ((l[K]).unfit ≠ 0 → F = (l[K]).unfit) := Lib.hid (fun h => by rw [HF.out]; exact fitsF_at hKN hM.out h)
      obtain ⟨x, hx⟩ : ∃ x, x = l[K] := ⟨_, rfl⟩
      rw [← hx] at s0 s1 s2 s3 HU HNO
      obtain ⟨key, st, v, dd⟩ := x
      simp only at s0 s1 s2 s3
      clear hx hints hval hvc hbb
      have BA := Lib.hid (hB1.out.alloc hB1.out.size (.cells #[.string key, .int .i64 st, .slice Av v.length cv, .bool dd] 33))
      have H140 : Hid (key.size < 1 ∨ 255 < key.size → F = 140) := Lib.hid (fun h => by
        have e : Vn.unfit ⟨key, st, v, dd⟩ = 140 := by unfold Vn.unfit; rw [if_pos h]
        rw [HNO.out (by rw [e]; decide), e])
      have H141 : Hid (¬ (key.size < 1 ∨ 255 < key.size) → (4096 < v.length ∨ dd = true ∧ 0 < v.length) → F = 141) := Lib.hid (fun h h' => by
        have e : Vn.unfit ⟨key, st, v, dd⟩ = 141 := by unfold Vn.unfit; rw [if_neg h, if_pos h']
        rw [HNO.out (by rw [e]; decide), e])
      have H0 : Hid (¬ (key.size < 1 ∨ 255 < key.size) → ¬ (4096 < v.length ∨ dd = true ∧ 0 < v.length) → ∀ v ∈ l.take (K + 1), v.unfit = 0) := Lib.hid (fun h h' => HU.out (by unfold Vn.unfit; rw [if_neg h, if_neg h']))
      cases dd
      · go_wp2
        all_goals first
          | exact ⟨⟨K + 1, by go_num, hK1, Lib.hid (H0.out (by omega) (by first | omega | (simp; omega) | simp_all)), BA⟩, by simp [intOf]; omega⟩
          | (go_ret; exact ⟨by rw [H140.out (by omega)]; rfl, BA.out⟩)
          | (go_ret; exact ⟨by rw [H141.out (by omega) (by simp; omega)]; rfl, BA.out⟩)
      · go_wp2
        all_goals first
          | exact ⟨⟨K + 1, by go_num, hK1, Lib.hid (H0.out (by omega) (by first | omega | (simp; omega) | simp_all)), BA⟩, by simp [intOf]; omega⟩
          | (go_ret; exact ⟨by rw [H140.out (by omega)]; rfl, BA.out⟩)
          | (go_ret; exact ⟨by rw [H141.out (by omega) (by simp; omega)]; rfl, BA.out⟩)
    · have hKe : K = n := by omega
      subst hKe
      have e : F = 0 := by
        rw [HF.out]
        refine fitsF_all fun v hv => hM.out v ?_
        rw [HN.out, List.take_length]; exact hv
      have HE := Lib.hid e
      clear e
      go_wp2
      go_ret
      exact ⟨by rw [HE.out]; rfl, hB1.out⟩
/-- Whether a key was written behind a stamp. -/
def aboveV (so : Option St) (since : Int) (v : Vn) : Bool := decide (0 < (Ch.ofO (St.getO so v.key)).length) && decide (since < (lastL (Ch.ofO (St.getO so v.key))).x.st)
def aboveF (so : Option St) (l : List Vn) (since : Int) : Bool := l.any (aboveV so since)
set_option maxRecDepth 100000 in
set_option maxHeartbeats 3200000 in
theorem above_any {w : World} {so : Option St} (h : St.okO w so) {B : Nat} {A : Option Addr} {c : Nat} {l : List Vn} {since : Int} (hS : kVn.Sl w B A l) (hB : B ≤ w.heap.size) (hl : l.length ≤ 140737488355328) (hks : ∀ v ∈ l, v.key.size ≤ maxLen) :
    Calls Try.prog 51 #[ptrS so, .slice A l.length c, .int .i64 since] w fun e w' => e = .returned (.bool (aboveF so l since)) ∧ Below w.heap.size w w' := by
  have HS := Lib.hid hS
  have HO := Lib.hid h
  have HKS := Lib.hid hks
  obtain ⟨n, hn⟩ : ∃ n, n = l.length := ⟨_, rfl⟩
  have HN := Lib.hid hn
  rw [← hn] at hl ⊢
  obtain ⟨F, hF⟩ : ∃ F, F = aboveF so l since := ⟨_, rfl⟩
  have HF := Lib.hid hF
  rw [← hF]
  obtain ⟨P, hP⟩ : ∃ P, P = ptrS so := ⟨_, rfl⟩
  have HP := Lib.hid hP
  rw [← hP]
  clear hS hn hF hP h hks
  go_enter Try.func51, Try.ntmps51
  go_wp2
  go_loopw [13] (fun t wr => ∃ K : Nat, t = .int .i64 K ∧ K ≤ n ∧ Hid (∀ v ∈ l.take K, aboveV so since v = false) ∧ Hid (Below w.heap.size w wr)) (fun t _ => n - (intOf t).toNat)
  case atStart => exact ⟨0, rfl, Nat.zero_le _, Lib.hid (fun v hv => by simp at hv), Lib.hid (Below.refl _ _)⟩
  case round =>
    obtain ⟨K, rfl, hK, hM, hB1⟩ := hrel
    by_cases hlt : (K : Int) < (n : Int)
    · have hKN : K < l.length := by have := HN.out; omega
      have hKn : K < n := by omega
      have hK1 : K + 1 ≤ n := by omega
      obtain ⟨bb, off, Av, cv, rfl, hbb, hints, s0, s1, s2, s3, hval, hvc⟩ := vn_at (HS.out.keep (fun p hp => hB1.out.cell (Nat.lt_of_lt_of_le hp hB))) hKN
      have HU : Hid (aboveV so since (l[K]) = false → ∀ v ∈ l.take (K + 1), aboveV so since v = false) := Lib.hid (fun hu v hv => by
        rw [List.take_succ_eq_append_getElem hKN] at hv
        rcases List.mem_append.1 hv with h | h
        · exact hM.out v h
        · simp only [List.mem_cons, List.not_mem_nil, or_false] at h; subst h; exact hu)
      have HNO : Hid (aboveV so since (l[K]) = true → F = true) := Lib.hid (fun h => by
        rw [HF.out]; exact List.any_eq_true.2 ⟨_, List.getElem_mem hKN, h⟩)
      have hkk := HKS.out _ (List.getElem_mem hKN)
      obtain ⟨x, hx⟩ : ∃ x, x = l[K] := ⟨_, rfl⟩
      rw [← hx] at s0 s1 s2 s3 HU HNO hkk
      obtain ⟨key, st, v, dd⟩ := x
      simp only at s0 s1 s2 s3 hkk
      clear hx hints hval hvc hbb
      have BA := Lib.hid (hB1.out.alloc hB1.out.size (.cells #[.string key, .int .i64 st, .slice Av v.length cv, .bool dd] 33))
      obtain ⟨W, hW⟩ : ∃ W, W = wr.alloc (.cells #[.string key, .int .i64 st, .slice Av v.length cv, .bool dd] 33) := ⟨_, rfl⟩
      have HW := Lib.hid hW
      obtain ⟨b, hb⟩ : ∃ b, b = decide (0 < (Ch.ofO (St.getO so key)).length) := ⟨_, rfl⟩
      obtain ⟨t, ht⟩ : ∃ t, t = (lastL (Ch.ofO (St.getO so key))).x.st := ⟨_, rfl⟩
      have HAB := Lib.hid (show aboveV so since ⟨key, st, v, dd⟩ = (b && decide (since < t)) from by rw [hb, ht]; rfl)
      have HNW : Hid (Calls Try.prog 84 #[P, .string key] W fun e w' => e = .returned (.tuple #[.int .i64 t, .bool b]) ∧ Below W.heap.size W w') := Lib.hid (by
        rw [HP.out, hb, ht]
        exact newest_any (St.okO_go HO.out (by rw [hW]; exact BA.out)) hkk)
      clear hb ht hW hkk
      go_wp2_with fail
      rw [← HW.out] at BA ⊢
      refine HNW.out.mono ?_
      rintro e w3 ⟨rfl, hb3⟩
      have B3 := Lib.hid (BA.out.trans (hb3.mono BA.out.size))
      clear hb3 HNW s0 s1 s2 s3
      cases b
      · have HU2 := Lib.hid (HU.out (by rw [HAB.out]; rfl))
        go_wp2
        exact ⟨⟨K + 1, by go_num, hK1, HU2, B3⟩, by simp [intOf]; omega⟩
      · by_cases hst : since < t
        · have HT := Lib.hid (HNO.out (by rw [HAB.out]; simpa using hst))
          go_wp2
          go_ret
          exact ⟨by rw [HT.out]; rfl, B3.out⟩
        · have HU2 := Lib.hid (HU.out (by rw [HAB.out]; simpa using hst))
          go_wp2
          exact ⟨⟨K + 1, by go_num, hK1, HU2, B3⟩, by simp [intOf]; omega⟩
    · have hKe : K = n := by omega
      subst hKe
      have e : F = false := by
        rw [HF.out]
        refine List.any_eq_false.2 fun v hv => ?_
        have := hM.out v (by rw [HN.out, List.take_length]; exact hv)
        simp [this]
      have HE := Lib.hid e
      clear e
      go_wp2
      go_ret
      exact ⟨by rw [HE.out]; rfl, hB1.out⟩
set_option maxRecDepth 100000 in
theorem conflict_any {w : World} {so : Option St} (h : St.okO w so) {B : Nat} {A : Option Addr} {c : Nat} {l : List Vn} {since : Int} (hS : kVn.Sl w B A l) (hB : B ≤ w.heap.size) (hl : l.length ≤ 140737488355328) (hks : ∀ v ∈ l, v.key.size ≤ maxLen) :
    Calls Try.prog 19 #[ptrS so, .slice A l.length c, .int .i64 since] w fun e w' => e = .returned (.bool (aboveF so l since)) ∧ Below w.heap.size w w' := by
  have HA := Lib.hid (above_any (c := c) (since := since) h hS hB hl hks)
  obtain ⟨n, hn⟩ : ∃ n, n = l.length := ⟨_, rfl⟩
  rw [← hn] at HA ⊢
  obtain ⟨P, hP⟩ : ∃ P, P = ptrS so := ⟨_, rfl⟩
  rw [← hP] at HA ⊢
  obtain ⟨F, hF⟩ : ∃ P, P = aboveF so l since := ⟨_, rfl⟩
  rw [← hF] at HA ⊢
  clear hn hP hF h hS hl hks
  go_enter Try.func19, Try.ntmps19
  go_wp2_with fail
  refine HA.out.mono ?_
  rintro e w1 ⟨rfl, hb⟩
  have HB := Lib.hid hb
  clear hb
  go_wp2
  go_ret
  exact ⟨rfl, HB.out⟩
end Go.Proofs.Ytoecgkdipgaaeaa
/- Commits: may, by contract. -/
namespace Go.Proofs.Ytoecgkdipgaaeaa
open Go.RowKit

def leB (a b : ByteArray) : Bool := Op.bytesLess a.toList b.toList || a.toList == b.toList
/-- Some key is not above the one ahead of it. -/
def Falls (l : List Vn) : Prop := ∃ i, ∃ h : i + 1 < l.length, leB (l[i + 1]).key (l[i]).key = true
open Classical in
noncomputable def mayF (l : List Vn) : Int := if Falls l then 2 else 0
set_option maxRecDepth 100000 in
set_option maxHeartbeats 3200000 in
theorem cmay_any {w : World} {B : Nat} {A : Option Addr} {c : Nat} {l : List Vn} (hS : kVn.Sl w B A l) (hB : B ≤ w.heap.size) (hl : l.length ≤ 140737488355328) :
    Calls Try.prog 78 #[.slice A l.length c] w fun e w' => e = .returned (.int .i64 (mayF l)) ∧ Below w.heap.size w w' := by
  have HS := Lib.hid hS
  obtain ⟨n, hn⟩ : ∃ n, n = l.length := ⟨_, rfl⟩
  have HN := Lib.hid hn
  rw [← hn] at hl ⊢
  obtain ⟨F, hF⟩ : ∃ F, F = mayF l := ⟨_, rfl⟩
  have HF := Lib.hid hF
  rw [← hF]
  clear hS hn hF
  go_enter Try.func78, Try.ntmps78
  go_wp2
  go_loopw [7] (fun t wr => ∃ K : Nat, t = .int .i64 K ∧ K ≤ n ∧ Hid (∀ (i : Nat) (h : i + 1 < l.length), i + 1 < K → leB (l[i + 1]).key (l[i]).key = false) ∧ Hid (Below w.heap.size w wr)) (fun t _ => n - (intOf t).toNat)
  case atStart => exact ⟨0, rfl, Nat.zero_le _, Lib.hid (fun i h h' => by omega), Lib.hid (Below.refl _ _)⟩
  case round =>
    obtain ⟨K, rfl, hK, hM, hB1⟩ := hrel
    by_cases hlt : (K : Int) < (n : Int)
    · have hKN : K < l.length := by have := HN.out; omega
      have hKn : K < n := by omega
      have hK1 : K + 1 ≤ n := by omega
      have HSr := Lib.hid (HS.out.keep (fun p hp => hB1.out.cell (Nat.lt_of_lt_of_le hp hB)))
      obtain ⟨bb, off, Av, cv, hA, hbb, hints, s0, s1, s2, s3, hval, hvc⟩ := vn_at HSr.out hKN
      subst hA
      obtain ⟨x, hx⟩ : ∃ x, x = l[K] := ⟨_, rfl⟩
      have HX := Lib.hid hx
      rw [← hx] at s0 s1 s2 s3
      obtain ⟨key, st, v, dd⟩ := x
      simp only at s0 s1 s2 s3
      have BA := Lib.hid (hB1.out.alloc hB1.out.size (.cells #[.string key, .int .i64 st, .slice Av v.length cv, .bool dd] 33))
      have hbr : bb < wr.heap.size := Nat.lt_of_lt_of_le hbb (Nat.le_trans hB hB1.out.size)
      clear hx hints hval hvc hbb
      rcases Nat.eq_zero_or_pos K with h0 | h0
      · have HU : Hid (∀ (i : Nat) (h : i + 1 < l.length), i + 1 < K + 1 → leB (l[i + 1]).key (l[i]).key = false) := Lib.hid (fun i h h' => by omega)
        have d0 : decide (0 < (K : Int)) = false := decide_eq_false (by omega)
        have d0' : decide (0 < K) = false := decide_eq_false (by omega)
        clear h0
        go_upto_region 4 with fail
        go_quiet (fail)
        go_wp2
        exact ⟨⟨K + 1, by go_num, hK1, HU, Lib.hid (below_drewN BA.out nq)⟩, by simp [intOf]; omega⟩
      · obtain ⟨J, hJ⟩ : ∃ J, K = J + 1 := ⟨K - 1, by omega⟩
        have hJN : J < l.length := by omega
        obtain ⟨bb', off', Av', cv', hA', hbb', hints', t0, _, _, _, _, _⟩ := vn_at HSr.out hJN
        injection hA' with hA'
        injection hA' with e1 e2
        subst e1; subst e2
        obtain ⟨pk, hpk⟩ : ∃ k, k = (l[J]).key := ⟨_, rfl⟩
        rw [← hpk] at t0
        have hJ1 : (K : Int) - 1 = (J : Int) := by omega
        have hJn : J < n := by omega
        have d0 : decide (0 < (K : Int)) = true := decide_eq_true (by omega)
        have d0' : decide (0 < K) = true := decide_eq_true (by omega)
        have HFB : Hid (leB key pk = true → F = 2) := Lib.hid (fun h => by
          rw [HF.out]; unfold mayF
          rw [if_pos]
          subst hJ
          refine ⟨J, hKN, ?_⟩
          rw [← HX.out, ← hpk]; exact h)
        have HU : Hid (leB key pk = false → ∀ (i : Nat) (h : i + 1 < l.length), i + 1 < K + 1 → leB (l[i + 1]).key (l[i]).key = false) := Lib.hid (fun h i hi hi' => by
          by_cases hiK : i + 1 < K
          · exact hM.out i hi hiK
          · have e : i = J := by omega
            subst e
            subst hJ
            rw [← HX.out, ← hpk]; exact h)
        clear hJ h0 hpk hints' hbb'
        cases hle : leB key pk with
        | true =>
          have HT := Lib.hid (HFB.out hle)
          have hle' : (Op.bytesLess key.toList pk.toList || key.toList == pk.toList) = true := hle
          clear hle
          go_upto_region 4 with fail
          go_quiet (fail)
          go_wp2
          go_ret
          exact ⟨by rw [HT.out]; rfl, below_drewN BA.out nq⟩
        | false =>
          have HU2 := Lib.hid (HU.out hle)
          have hle' : (Op.bytesLess key.toList pk.toList || key.toList == pk.toList) = false := hle
          clear hle
          go_upto_region 4 with fail
          go_quiet (fail)
          go_wp2
          exact ⟨⟨K + 1, by go_num, hK1, HU2, Lib.hid (below_drewN BA.out nq)⟩, by simp [intOf]; omega⟩
    · have hKe : K = n := by omega
      subst hKe
      have e : F = 0 := by
        rw [HF.out]; unfold mayF
        rw [if_neg]
        rintro ⟨i, h, h'⟩
        have := hM.out i h (by have := HN.out; omega)
        rw [h'] at this; cases this
      have HE := Lib.hid e
      clear e
      go_wp2
      go_ret
      exact ⟨by rw [HE.out]; rfl, hB1.out⟩
end Go.Proofs.Ytoecgkdipgaaeaa
/- Commits: asked, by contract. -/
namespace Go.Proofs.Ytoecgkdipgaaeaa
open Go.RowKit

/-- What refuses a commit ahead of the log; 0: nothing. -/
noncomputable def askedF (so : Option St) (now : Int) (l : List Vn) (since : Int) : Int :=
  if mayF l ≠ 0 then mayF l else if since < 0 ∨ now < since then 2 else if fitsF l ≠ 0 then fitsF l else if aboveF so l now = true then 130 else if aboveF so l since = true then 190 else if now = 4611686018427387904 then 120 else 0
set_option maxRecDepth 100000 in
set_option maxHeartbeats 3200000 in
theorem asked_any {w : World} {so : Option St} (h : St.okO w so) {gc : Nat} {now wd : Int} (hc : (Item.clk gc now wd).P w) {B : Nat} {A : Option Addr} {c : Nat} {l : List Vn} {since : Int} (hS : kVn.Sl w B A l) (hB : B ≤ w.heap.size) (hl : l.length ≤ 140737488355328) (hks : ∀ v ∈ l, v.key.size ≤ maxLen) :
    Calls Try.prog 48 #[ptrS so, .pointer (some ⟨gc, 0, none⟩), .slice A l.length c, .int .i64 since] w fun e w' => e = .returned (.int .i64 (askedF so now l since)) ∧ Below w.heap.size w w' := by
  have HM := Lib.hid (cmay_any (c := c) hS hB hl)
  have HNOW := Lib.hid (fun (w' : World) (hb : Below w.heap.size w w') => cnow_any (w := w') (Item.go hc hb))
  have HWORN := Lib.hid (fun (w' : World) (hb : Below w.heap.size w w') => cworn_any (w := w') (Item.go hc hb))
  have HF := Lib.hid (fun (w' : World) (hb : Below w.heap.size w w') => cfits_any (w := w') (c := c) (hS.keep (fun p hp => hb.cell (Nat.lt_of_lt_of_le hp hB))) (Nat.le_trans hB hb.size) hl)
  have HA := Lib.hid (fun (w' : World) (hb : Below w.heap.size w w') => above_any (w := w') (c := c) (since := now) (St.okO_go h hb) (hS.keep (fun p hp => hb.cell (Nat.lt_of_lt_of_le hp hB))) (Nat.le_trans hB hb.size) hl hks)
  have HC := Lib.hid (fun (w' : World) (hb : Below w.heap.size w w') => conflict_any (w := w') (c := c) (since := since) (St.okO_go h hb) (hS.keep (fun p hp => hb.cell (Nat.lt_of_lt_of_le hp hB))) (Nat.le_trans hB hb.size) hl hks)
  obtain ⟨R, hR⟩ : ∃ R, R = askedF so now l since := ⟨_, rfl⟩
  rw [← hR]
  unfold askedF at hR
  obtain ⟨n, hn⟩ : ∃ n, n = l.length := ⟨_, rfl⟩
  obtain ⟨P, hP⟩ : ∃ n, n = ptrS so := ⟨_, rfl⟩
  obtain ⟨m, hm⟩ : ∃ n, n = mayF l := ⟨_, rfl⟩
  obtain ⟨f, hf⟩ : ∃ n, n = fitsF l := ⟨_, rfl⟩
  obtain ⟨a, ha⟩ : ∃ n, n = aboveF so l now := ⟨_, rfl⟩
  obtain ⟨b, hb⟩ : ∃ n, n = aboveF so l since := ⟨_, rfl⟩
  rw [← hn, ← hm] at HM
  rw [← hn, ← hf] at HF
  rw [← hn, ← hP, ← ha] at HA
  rw [← hn, ← hP, ← hb] at HC
  rw [← hm, ← hf, ← ha, ← hb] at hR
  rw [← hn, ← hP]
  have HR := Lib.hid hR
  clear hR hn hP hm hf ha hb h hc hS hl hks hB
  go_enter Try.func48, Try.ntmps48
  go_wp2_with fail
  refine HM.out.mono ?_
  rintro e w1 ⟨rfl, hb1⟩
  have B1 := Lib.hid hb1
  clear hb1 HM
  by_cases h0 : m = 0
  case neg =>
    have d0 : decide (m = 0) = false := decide_eq_false h0
    have e : R = m := by rw [HR.out, if_pos h0]
    clear HR
    go_wp2
    go_ret
    exact ⟨by rw [e]; rfl, B1.out⟩
  subst h0
  by_cases h1 : since < 0
  · have e : R = 2 := by rw [HR.out, if_neg (by simp), if_pos (.inl h1)]
    have HE := Lib.hid e
    clear HR e
    go_wp2
    go_ret
    exact ⟨by rw [HE.out]; rfl, B1.out⟩
  have d1 : decide (since < 0) = false := decide_eq_false h1
  have h1' : 0 ≤ since := by omega
  go_wp2_with fail
  refine (HNOW.out w1 B1.out).mono ?_
  rintro e w2 ⟨rfl, rfl⟩
  by_cases h2 : now < since
  · have e : R = 2 := by rw [HR.out, if_neg (by simp), if_pos (.inr h2)]
    have HE := Lib.hid e
    clear HR e
    go_wp2
    go_ret
    exact ⟨by rw [HE.out]; rfl, B1.out⟩
  have d2 : decide (now < since) = false := decide_eq_false h2
  have h2' : since ≤ now := by omega
  go_wp2_with fail
  refine (HF.out w1 B1.out).mono ?_
  rintro e w2 ⟨rfl, hb2⟩
  have B2 := Lib.hid (B1.out.trans (hb2.mono B1.out.size))
  clear hb2 HF B1
  by_cases h3 : f = 0
  case neg =>
    have d3 : decide (f = 0) = false := decide_eq_false h3
    have e : R = f := by rw [HR.out, if_neg (by simp), if_neg (by omega), if_pos h3]
    have HE := Lib.hid e
    clear HR e
    go_wp2
    go_ret
    exact ⟨by rw [HE.out]; rfl, B2.out⟩
  subst h3
  go_wp2_with fail
  refine (HNOW.out w2 B2.out).mono ?_
  rintro e w3 ⟨rfl, rfl⟩
  go_wp2_with fail
  refine (HA.out w2 B2.out).mono ?_
  rintro e w3 ⟨rfl, hb3⟩
  have B3 := Lib.hid (B2.out.trans (hb3.mono B2.out.size))
  clear hb3 HA B2 HNOW
  cases a with
  | true =>
    have e : R = 130 := by rw [HR.out, if_neg (by simp), if_neg (by omega), if_neg (by simp), if_pos rfl]
    have HE := Lib.hid e
    clear HR e
    go_wp2
    go_ret
    exact ⟨by rw [HE.out]; rfl, B3.out⟩
  | false =>
  go_wp2_with fail
  refine (HC.out w3 B3.out).mono ?_
  rintro e w4 ⟨rfl, hb4⟩
  have B4 := Lib.hid (B3.out.trans (hb4.mono B3.out.size))
  clear hb4 HC B3
  cases b with
  | true =>
    have e : R = 190 := by rw [HR.out, if_neg (by simp), if_neg (by omega), if_neg (by simp), if_neg (by simp), if_pos rfl]
    have HE := Lib.hid e
    clear HR e
    go_wp2
    go_ret
    exact ⟨by rw [HE.out]; rfl, B4.out⟩
  | false =>
  go_wp2_with fail
  refine (HWORN.out w4 B4.out).mono ?_
  rintro e w5 ⟨rfl, rfl⟩
  by_cases h5 : now = 4611686018427387904
  · have e : R = 120 := by rw [HR.out, if_neg (by simp), if_neg (by omega), if_neg (by simp), if_neg (by simp), if_neg (by simp), if_pos h5]
    have d5 : decide (now = 4611686018427387904) = true := decide_eq_true h5
    have HE := Lib.hid e
    clear HR e h5 h2 h2' d2
    go_wp2
    go_ret
    exact ⟨by rw [HE.out]; rfl, B4.out⟩
  · have e : R = 0 := by rw [HR.out, if_neg (by simp), if_neg (by omega), if_neg (by simp), if_neg (by simp), if_neg (by simp), if_neg h5]
    have d5 : decide (now = 4611686018427387904) = false := decide_eq_false h5
    have HE := Lib.hid e
    clear HR e h5 h2 h2' d2
    go_wp2
    go_ret
    exact ⟨by rw [HE.out]; rfl, B4.out⟩
end Go.Proofs.Ytoecgkdipgaaeaa
