/- Contracts and plain laws that this claim leans on, laid together: Stor3, Stor4, Stor5, Clk, Com1, Com2, Com3, Com4. -/
import Derived.Test.YtmnpchncmbnddaaGreatG11
import Derived.Deep.AppendLies
import Derived.Deep.RegionHeld3
import Derived.Deep.DrawnRows
import Derived.Deep.RegionLaw
import Derived.Test.YtmnpchncmbnddaaGreatG08
import Derived.BigQuiet
set_option linter.all false
set_option linter.unusedVariables false
set_option linter.unusedSimpArgs false
set_option linter.unnecessarySimpa false
/- Chains: Add, by contract. -/
attribute [local go_sem ↓] Go.wp_at_zero Go.wp_at_succ
namespace Go.Proofs.YtmnpchncmbnddaaGreat
open Go.RowKit

/-- A chain without its values. -/
def Ch.core (h : Ch) : Item := Item.all [Item.blk h.g 215 #[h.row], Item.rowT 135 3 h.row h.ls.length (lkCells h.ls)]
theorem Ch.coreP {w : World} {h : Ch} (hp : h.item.P w) : h.core.P w :=
  ⟨fun i hi => by
    simp only [List.mem_cons, List.not_mem_nil, or_false] at hi
    rcases hi with rfl | rfl
    · exact Ch.blk hp
    · exact Ch.rowP hp, by
    have := hp.2
    unfold Ch.pieces at this
    exact List.Pairwise.sublist (List.Sublist.cons_cons _ (List.Sublist.cons_cons _ (List.nil_sublist _))) this⟩
theorem Ch.grow {W W2 : World} {h : Ch} {A' : Option Addr} {c' : Nat} {ls' : List Lk} (hc : h.core.P W)
    (t : Turn (Item.rowT 135 3 h.row h.ls.length (lkCells h.ls)) W (Item.rowT 135 3 (.slice A' ls'.length c') ls'.length (lkCells ls')) W2) :
    Turn h.core W (Ch.core ⟨h.g, A', c', ls'⟩) (W2.setCell ⟨h.g, 0, none⟩ (.slice A' ls'.length c')) := by
  have t1 := Turn.second hc t
  have hb : Blk W2 h.g 215 #[h.row] := Item.all_get t1.p (List.mem_cons_self ..)
  have t2 := Turn.head t1.p (Turn.cell hb 0 (.slice A' ls'.length c'))
  exact t1.trans t2
/-- A link may not come behind the others. -/
def AddBad (h : Ch) (l : Lk) : Prop := l.x.st < 0 ∨ 0 < h.ls.length ∧ l.x.st ≤ (lastL h.ls).x.st
/-- A link comes behind the others. -/
def AddPost (h : Ch) (l : Lk) (w : World) (e : Ending) (w' : World) : Prop :=
  AddBad h l ∧ e = .returned (.int .i64 130) ∧ Below w.heap.size w w' ∨
  ¬ AddBad h l ∧ e = .returned (.int .i64 0) ∧ ∃ A' c', Turn h.core w (Ch.core ⟨h.g, A', c', h.ls ++ [l]⟩) w'
theorem info_link : (Tryz.prog.info? 135).map (fun i => (i.zero, i.size, i.bytes)) = some (some (.agg #[.int .i64 0, .slice none 0 0, .bool false]), 3, 40) := by kernel_rfl
theorem one_lk (l : Lk) : ∀ u ∈ l.cells, u.oneCell' = true := by
  intro u hu
  simp only [Lk.cells, List.mem_cons, List.not_mem_nil, or_false] at hu
  rcases hu with rfl | rfl | rfl <;> rfl
set_option maxRecDepth 100000 in
set_option maxHeartbeats 3200000 in
theorem cadd_any {w : World} {h : Ch} (hp : h.item.P w) (hn : h.ls.length ≤ 1099511627775) (l : Lk) :
    Calls Tryz.prog 131 #[.pointer (some ⟨h.g, 0, none⟩), .agg l.cells.toArray] w (AddPost h l w) := by
  have HC := Lib.hid (Ch.coreP hp)
  have HG := Lib.hid (Ch.blk hp).lt
  have HL := Lib.hid (fun (w' : World) (hb : Below w.heap.size w w') => clast_any (w := w') (o := some h) (Item.go hp hb) (by show h.ls.length ≤ _; omega))
  have HN := Lib.hid hn
  obtain ⟨N, hN⟩ : ∃ n, n = h.ls.length := ⟨_, rfl⟩
  obtain ⟨LL, hLL⟩ : ∃ n, n = lastL h.ls := ⟨_, rfl⟩
  have HL2 : Hid (∀ w' : World, Below w.heap.size w w' → Calls Tryz.prog 69 #[.pointer (some ⟨h.g, 0, none⟩)] w' fun e w'' => e = .returned (.tuple #[.agg LL.cells.toArray, .bool (decide (0 < N))]) ∧ Below w'.heap.size w' w'') := Lib.hid (by rw [hN, hLL]; exact HL.out)
  have hiff : (l.x.st < 0 ∨ 0 < N ∧ l.x.st ≤ LL.x.st) = AddBad h l := by rw [hN, hLL]; rfl
  rw [← hN] at hn
  have HNN := Lib.hid hN
  clear hp HL hLL hN
  obtain ⟨⟨lst, lv, ldd⟩, lA, lc⟩ := LL
  simp only at hiff
  rw [show (Lk.cells ⟨⟨lst, lv, ldd⟩, lA, lc⟩).toArray = #[.int .i64 lst, .slice lA lv.length lc, .bool ldd] from rfl] at HL2
  have HLC := Lib.hid (show l.cells = [.int .i64 l.x.st, .slice l.A l.x.v.length l.c, .bool l.x.dead] from rfl)
  rw [show l.cells.toArray = #[.int .i64 l.x.st, .slice l.A l.x.v.length l.c, .bool l.x.dead] from rfl]
  obtain ⟨s, hs⟩ : ∃ s, s = l.x.st := ⟨_, rfl⟩
  obtain ⟨vn, hvn⟩ : ∃ s, s = l.x.v.length := ⟨_, rfl⟩
  obtain ⟨vA, hvA⟩ : ∃ s, s = l.A := ⟨_, rfl⟩
  obtain ⟨vc, hvc⟩ : ∃ s, s = l.c := ⟨_, rfl⟩
  obtain ⟨vd, hvd⟩ : ∃ s, s = l.x.dead := ⟨_, rfl⟩
  rw [← hs, ← hvn, ← hvA, ← hvc, ← hvd] at HLC ⊢
  rw [← hs] at hiff
  have HIFF := Lib.hid hiff
  clear hs hvn hvA hvc hvd hiff
  have B1 := Lib.hid ((Below.refl w.heap.size w).alloc (Nat.le_refl _) (.cells #[.int .i64 s, .slice vA vn vc, .bool vd] 135))
  have K1 := Lib.hid (Blk.new w 135 #[.int .i64 s, .slice vA vn vc, .bool vd])
  go_enter Tryz.func131, Tryz.ntmps131
  go_wp2_with fail
  obtain ⟨W, hW⟩ : ∃ W, W = w.alloc (.cells #[.int .i64 s, .slice vA vn vc, .bool vd] 135) := ⟨_, rfl⟩
  rw [← hW] at B1 K1 ⊢
  clear hW
  refine (HL2.out W B1.out).mono ?_
  rintro e w2 ⟨rfl, hb⟩
  have B2 := Lib.hid (B1.out.trans ((hb.alloc hb.size (.cells #[.int .i64 lst, .slice lA lv.length lc, .bool ldd] 135)).mono B1.out.size))
  have K2 := Lib.hid ((K1.out.below' hb).alloc (.cells #[.int .i64 lst, .slice lA lv.length lc, .bool ldd] 135))
  have K3 := Lib.hid (Blk.new w2 135 #[.int .i64 lst, .slice lA lv.length lc, .bool ldd])
  have HNE := Lib.hid (show w.heap.size < w2.heap.size from Nat.lt_of_lt_of_le (K1.out.lt) hb.size)
  clear hb HL2 B1 K1
  go_upto_region 4 with fail
  obtain ⟨W2, hW2⟩ : ∃ W2, W2 = w2.alloc (.cells #[.int .i64 lst, .slice lA lv.length lc, .bool ldd] 135) := ⟨_, rfl⟩
  obtain ⟨R, hR⟩ : ∃ R, R = w2.heap.size := ⟨_, rfl⟩
  obtain ⟨T, hT⟩ : ∃ R, R = w.heap.size := ⟨_, rfl⟩
  have HT := Lib.hid hT
  rw [← hW2] at B2 K2 K3 ⊢
  rw [← hR] at K3 HNE ⊢
  rw [← hT] at K2 HNE HG ⊢
  clear hW2 hR hT
  have k0 := K2.out.cell 0
  have k1 := K2.out.cell 1
  have k2 := K2.out.cell 2
  have r0 := K3.out.cell 0
  simp at k0 k1 k2 r0
  by_cases hbad : s < 0 ∨ 0 < N ∧ s ≤ lst
  · rcases Int.lt_or_le s 0 with h1 | h1
    · go_wp2
      go_ret
      exact Or.inl ⟨by rw [← HIFF.out]; exact hbad, rfl, B2.out⟩
    · have h2 : 0 < N ∧ s ≤ lst := by
        rcases hbad with h | h
        · omega
        · exact h
      obtain ⟨h3, h4⟩ := h2
      have d0 : decide (0 < N) = true := decide_eq_true h3
      go_wp2
      go_ret
      exact Or.inl ⟨by rw [← HIFF.out]; exact hbad, rfl, B2.out⟩
  · have h1 : 0 ≤ s := by
      rcases Int.lt_or_le s 0 with h | h
      · exact absurd (.inl h) hbad
      · exact h
    have h2 : (decide (0 < N) && decide (s ≤ lst)) = false := by
      rw [Bool.and_eq_false_iff]
      by_cases h : 0 < N
      · exact .inr (decide_eq_false fun h' => hbad (.inr ⟨h, h'⟩))
      · exact .inl (decide_eq_false h)
    have d1 : decide (s < 0) = false := decide_eq_false (by omega)
    have HBAD := Lib.hid hbad
    have hs4 : True := trivial
    clear hbad
    obtain ⟨i, hi, hz, h4, h5⟩ := info_parts info_link
    have HCW := Lib.hid (Item.go HC.out (B2.out.drew))
    have y0 : W2.drew.cell? ⟨h.g, 0, none⟩ = some (.slice h.A N h.c) := by
      have := (show Blk W2.drew h.g 215 #[h.row] from Item.all_get HCW.out (List.mem_cons_self ..)).cell 0
      rw [HNN.out]; simpa [Ch.row] using this
    have y1 : W2.drew.cell? ⟨T, 0, none⟩ = some (.int .i64 s) := k0
    have y2 : W2.drew.cell? ⟨T, 1, none⟩ = some (.slice vA vn vc) := k1
    have y3 : W2.drew.cell? ⟨T, 2, none⟩ = some (.bool vd) := k2
    obtain ⟨W3, hW3⟩ : ∃ W3, W3 = (W2.alloc (.cells #[.int .i64 s, .slice vA vn vc, .bool vd] 135)).drew := ⟨_, rfl⟩
    obtain ⟨Q, hQ⟩ : ∃ Q, Q = W2.heap.size := ⟨_, rfl⟩
    have HROW : Hid (W3.ownsRow 0 135 3 (.slice h.A N h.c) N (lkCells h.ls)) := Lib.hid (by
      have h1 : (Item.rowT 135 3 h.row h.ls.length (lkCells h.ls)).P W2.drew := Item.all_get HCW.out (by simp)
      have h2 : W2.drew.ownsRow 0 135 3 h.row h.ls.length (lkCells h.ls) := h1
      have h3 := rowT_keep (w' := W3) h2 (fun k hk => by rw [hW3]; exact Below.heap_alloc _ _ _ (rowT_lt h2 hk).2)
      unfold Ch.row at h3
      rwa [← HNN.out] at h3)
    have HNEWS : Hid (∀ j u, l.cells[j]? = some u → W3.cell? ((⟨Q, 0, none⟩ : Addr).add j) = some u) := Lib.hid (by
      rw [HLC.out, hQ, hW3]
      exact World.news_of_block (heap_alloc_new _ _))
    have HMAX := Lib.hid (show N + 1 ≤ maxLen from by unfold maxLen; omega)
    have HBY := Lib.hid (show (N + 1) * 40 ≤ 140737488355328 from by omega)
    have HEND : Hid (∀ (g cap : Nat) (w1 : World), w1.ownsRow 0 135 3 (.slice (some ⟨g, 0, none⟩) (N + 1) cap) (N + 1) (lkCells h.ls ++ l.cells) → W3.grownBy w1 (Value.slice h.A N h.c).ownBlock → ((Value.slice h.A N h.c).ownBlock = some g ∨ g = W3.heap.size) → Turn h.core w (Ch.core ⟨h.g, some ⟨g, 0, none⟩, cap, h.ls ++ [l]⟩) (w1.setCell ⟨h.g, 0, none⟩ (.slice (some ⟨g, 0, none⟩) (N + 1) cap))) := Lib.hid (fun g cap w1 hown hgrow hat => by
      have hb3 : Below w.heap.size w W3 := by
        rw [hW3]; exact (B2.out.alloc B2.out.size _).drew
      have hc3 : h.core.P W3 := Item.go HC.out hb3
      have e1 : (h.ls ++ [l]).length = N + 1 := by rw [List.length_append, HNN.out]; rfl
      have t := Turn.rowT (e := 135) (size := 3) (v := .slice h.A N h.c) (n := N) (xs := lkCells h.ls) hown hgrow (by
        rcases hat with h | h
        · exact .inl h.symm
        · exact .inr (by rw [← h]; rfl))
      rw [HNN.out] at t
      rw [← HNN.out, ← e1, ← lkCells_snoc] at t
      have t2 := Ch.grow hc3 (by rw [HNN.out] at t; exact t)
      rw [e1] at t2
      exact Turn.pre hb3 t2)
    have HX : Hid (∀ w', w' = (W2.alloc (.cells #[.int .i64 s, .slice vA vn vc, .bool vd] 135)).drew → w'.cell? ⟨h.g, 0, none⟩ = some (.slice h.A N h.c) ∧ w'.cell? ⟨T, 0, none⟩ = some (.int .i64 s) ∧ w'.cell? ⟨T, 1, none⟩ = some (.slice vA vn vc) ∧ w'.cell? ⟨T, 2, none⟩ = some (.bool vd)) := Lib.hid (fun w' e => by
      subst e
      have hz0 : h.g < W2.heap.size := by have := HG.out; have := HT.out; have := B2.out.size; omega
      have hz1 : T < W2.heap.size := K2.out.lt
      have hal : ∀ (k j : Nat), k < W2.heap.size → (W2.alloc (.cells #[.int .i64 s, .slice vA vn vc, .bool vd] 135)).drew.cell? ⟨k, j, none⟩ = W2.cell? ⟨k, j, none⟩ := fun k j hk => World.cell?_alloc_lt W2 _ ⟨k, j, none⟩ hk
      exact ⟨(hal _ _ hz0).trans y0, (hal _ _ hz1).trans k0, (hal _ _ hz1).trans k1, (hal _ _ hz1).trans k2⟩)
    have HFAR : Hid (∀ w1 : World, W3.grownBy w1 (Value.slice h.A N h.c).ownBlock → w1.cell? ⟨h.g, 0, none⟩ = some (.slice h.A N h.c) ∧ w1.cell? ⟨T, 0, none⟩ = some (.int .i64 s) ∧ w1.cell? ⟨T, 1, none⟩ = some (.slice vA vn vc) ∧ w1.cell? ⟨T, 2, none⟩ = some (.bool vd) ∧ w1.frozen? ⟨h.g, 0, none⟩ = false) := Lib.hid (fun w1 hgrow => by
      have hb3 : Below w.heap.size w W3 := by
        rw [hW3]; exact (B2.out.alloc B2.out.size _).drew
      have hc3 : h.core.P W3 := Item.go HC.out hb3
      have hg3 : Blk W3 h.g 215 #[h.row] := Item.all_get hc3 (List.mem_cons_self ..)
      have hd := (List.pairwise_cons.1 hc3.2).1 _ (List.mem_cons_self ..)
      have hne1 : some h.g ≠ (Value.slice h.A N h.c).ownBlock := fun e => hd h.g rfl (by
        show (Ch.row h).ownBlock = some h.g
        rw [e, HNN.out]; rfl)
      have hne2 : some T ≠ (Value.slice h.A N h.c).ownBlock := fun e => by
        have h1 : (Item.rowT 135 3 h.row h.ls.length (lkCells h.ls)).P w := Item.all_get HC.out (by simp)
        have := Item.lt _ h1 (k := T) (by show (Ch.row h).ownBlock = some T; rw [e, HNN.out]; rfl)
        have := HT.out; omega
      have hT3 : T < W3.heap.size := Nat.lt_of_lt_of_le K2.out.lt (by rw [hW3]; exact Nat.le_of_lt (by show _ < (W2.alloc _).heap.size; simp))
      have hx := HX.out W3 hW3
      exact ⟨(hgrow.cell_far ⟨h.g, 0, none⟩ hg3.lt hne1).trans hx.1, (hgrow.cell_far ⟨T, 0, none⟩ hT3 hne2).trans hx.2.1, (hgrow.cell_far ⟨T, 1, none⟩ hT3 hne2).trans hx.2.2.1, (hgrow.cell_far ⟨T, 2, none⟩ hT3 hne2).trans hx.2.2.2, (hgrow.frozen_far ⟨h.g, 0, none⟩ hg3.lt hne1).trans (hg3.frozen 0)⟩)
    rcases Nat.eq_zero_or_pos N with h0 | h0
    · have d0 : decide (0 < N) = false := decide_eq_false (by omega)
      clear h0
      have HW3 := Lib.hid hW3
      have HQ := Lib.hid hQ
      clear h2 hs4 hW3 hQ
      go_upto_region 6 with fail
      clear r0
      obtain ⟨x0, x1, x2, x3⟩ := HX.out _ rfl
      go_region_law ((rw [← HW3.out, ← HQ.out]; refine step_append_lies _ (by rfl) _ _ _ (by rfl) 0 135 i (.agg #[.int .i64 0, .slice none 0 0, .bool false]) 3 40 Tryz.underlying183 hi hz h4 h5 rfl (by decide) (.slice h.A N h.c) N (lkCells h.ls) (by rfl) HROW.out ⟨Q, 0, none⟩ 1 1 l.cells (by rfl) (by rfl) HNEWS.out (one_lk l) (by decide) HMAX.out HBY.out (Nat.zero_le _) _ rfl ?_; intro g cap w1 hown hgrow hat hlt; have TT := Lib.hid (HEND.out g cap w1 hown hgrow hat); have HGN := Lib.hid (HFAR.out w1 hgrow); have z0 := HGN.out.1; have z1 := HGN.out.2.1; have z2 := HGN.out.2.2.1; have z3 := HGN.out.2.2.2.1; have zf := HGN.out.2.2.2.2; clear hown hgrow hat hlt))
      all_goals go_wp2
      all_goals go_ret
      all_goals exact Or.inr ⟨by rw [← HIFF.out]; exact HBAD.out, rfl, _, _, TT.out⟩
    · have h3 : ¬ s ≤ lst := fun h => HBAD.out (.inr ⟨h0, h⟩)
      have d0 : decide (0 < N) = true := decide_eq_true h0
      have HW3 := Lib.hid hW3
      have HQ := Lib.hid hQ
      clear h2 hs4 hW3 hQ
      go_upto_region 6 with fail
      clear r0
      obtain ⟨x0, x1, x2, x3⟩ := HX.out _ rfl
      go_region_law ((rw [← HW3.out, ← HQ.out]; refine step_append_lies _ (by rfl) _ _ _ (by rfl) 0 135 i (.agg #[.int .i64 0, .slice none 0 0, .bool false]) 3 40 Tryz.underlying183 hi hz h4 h5 rfl (by decide) (.slice h.A N h.c) N (lkCells h.ls) (by rfl) HROW.out ⟨Q, 0, none⟩ 1 1 l.cells (by rfl) (by rfl) HNEWS.out (one_lk l) (by decide) HMAX.out HBY.out (Nat.zero_le _) _ rfl ?_; intro g cap w1 hown hgrow hat hlt; have TT := Lib.hid (HEND.out g cap w1 hown hgrow hat); have HGN := Lib.hid (HFAR.out w1 hgrow); have z0 := HGN.out.1; have z1 := HGN.out.2.1; have z2 := HGN.out.2.2.1; have z3 := HGN.out.2.2.2.1; have zf := HGN.out.2.2.2.2; clear hown hgrow hat hlt))
      all_goals go_wp2
      all_goals go_ret
      all_goals exact Or.inr ⟨by rw [← HIFF.out]; exact HBAD.out, rfl, _, _, TT.out⟩
end Go.Proofs.YtmnpchncmbnddaaGreat
/- Stores: what holds of the pieces while Apply goes on. -/
namespace Go.Proofs.YtmnpchncmbnddaaGreat
open Go.RowKit

/-- Two pieces that are one. -/
def Item.Same (x y : Item) : Prop := (∀ k, x.own k ↔ y.own k) ∧ ∀ w, x.P w ↔ y.P w
section
variable {x y a : Item} {w w' : World} {L M R : List Item}
theorem Item.Same.symm (h : x.Same y) : y.Same x := ⟨fun k => (h.1 k).symm, fun w => (h.2 w).symm⟩
theorem Item.Same.trans {z : Item} (h : x.Same y) (h' : y.Same z) : x.Same z := ⟨fun k => (h.1 k).trans (h'.1 k), fun w => (h.2 w).trans (h'.2 w)⟩
theorem Turn.sameR (h : Turn a w x w') (e : x.Same y) : Turn a w y w' := ⟨(e.2 _).1 h.p, h.k, fun k hk => h.o k ((e.1 k).2 hk)⟩
theorem Turn.sameL (h : Turn x w a w') (e : x.Same y) : Turn y w a w' := ⟨h.p, h.k.mono (fun i hi => .inl ((e.1 i).1 hi)), fun k hk => (h.o k hk).imp (e.1 k).1 id⟩
theorem same_flat : (Item.all (Item.all L :: M)).Same (Item.all (L ++ M)) := by
  refine ⟨fun k => ⟨fun ⟨i, hi, ho⟩ => ?_, fun ⟨i, hi, ho⟩ => ?_⟩, fun w => ⟨fun h => ⟨fun i hi => ?_, ?_⟩, fun h => ⟨fun i hi => ?_, ?_⟩⟩⟩
  · rcases List.mem_cons.1 hi with rfl | hi
    · obtain ⟨j, hj, hk⟩ := ho
      exact ⟨j, List.mem_append.2 (.inl hj), hk⟩
    · exact ⟨i, List.mem_append.2 (.inr hi), ho⟩
  · rcases List.mem_append.1 hi with hi | hi
    · exact ⟨_, List.mem_cons_self .., i, hi, ho⟩
    · exact ⟨i, List.mem_cons_of_mem _ hi, ho⟩
  · have hL : (Item.all L).P w := h.1 _ (List.mem_cons_self ..)
    rcases List.mem_append.1 hi with hi | hi
    · exact hL.1 i hi
    · exact h.1 i (List.mem_cons_of_mem _ hi)
  · have hL : (Item.all L).P w := h.1 _ (List.mem_cons_self ..)
    obtain ⟨h1, h2⟩ := List.pairwise_cons.1 h.2
    exact List.pairwise_append.2 ⟨hL.2, h2, fun i hi j hj k h3 h4 => h1 j hj k ⟨i, hi, h3⟩ h4⟩
  · rcases List.mem_cons.1 hi with rfl | hi
    · exact ⟨fun j hj => h.1 j (List.mem_append.2 (.inl hj)), (List.pairwise_append.1 h.2).1⟩
    · exact h.1 i (List.mem_append.2 (.inr hi))
  · obtain ⟨h1, h2, h3⟩ := List.pairwise_append.1 h.2
    exact List.pairwise_cons.2 ⟨fun j hj k ⟨i, hi, h4⟩ h5 => h3 i hi j hj k h4 h5, h2⟩
theorem same_perm (h : L.Perm M) : (Item.all L).Same (Item.all M) :=
  ⟨fun k => ⟨fun ⟨i, hi, ho⟩ => ⟨i, h.mem_iff.1 hi, ho⟩, fun ⟨i, hi, ho⟩ => ⟨i, h.mem_iff.2 hi, ho⟩⟩, fun w => ⟨fun hp => Item.all_perm hp h, fun hp => Item.all_perm hp h.symm⟩⟩
end
/-- A link's value and its chain have become one chain. -/
theorem add_pieces {w w' : World} {h h' : Ch} {l : Lk} {R : List Item} (hl : h'.ls = h.ls ++ [l]) (hp : (Item.all (l.item :: h.item :: R)).P w) (t : Turn h.core w h'.core w') :
    Turn (Item.all (l.item :: h.item :: R)) w (Item.all (h'.item :: R)) w' := by
  have e1 : (Item.all (l.item :: h.item :: R)).Same (Item.all (h.core :: (l.item :: (h.ls.map Lk.item ++ R)))) := by
    refine (same_perm (List.Perm.swap _ _ _)).trans (Item.Same.trans same_flat ?_)
    refine Item.Same.trans (same_perm ?_) (Item.Same.symm same_flat)
    show (h.pieces ++ l.item :: R).Perm ([Item.blk _ _ _, Item.rowT _ _ _ _ _] ++ l.item :: (h.ls.map Lk.item ++ R))
    unfold Ch.pieces
    refine List.Perm.cons _ (List.Perm.cons _ ?_)
    exact List.perm_middle
  have e2 : (Item.all (h'.core :: (l.item :: (h.ls.map Lk.item ++ R)))).Same (Item.all (h'.item :: R)) := by
    refine Item.Same.trans same_flat (Item.Same.trans (same_perm ?_) (Item.Same.symm same_flat))
    show ([Item.blk _ _ _, Item.rowT _ _ _ _ _] ++ l.item :: (h.ls.map Lk.item ++ R)).Perm (h'.pieces ++ R)
    unfold Ch.pieces
    rw [hl, List.map_append]
    refine List.Perm.cons _ (List.Perm.cons _ ?_)
    show (l.item :: (h.ls.map Lk.item ++ R)).Perm (h.ls.map Lk.item ++ [l.item] ++ R)
    rw [List.append_assoc]
    exact List.perm_middle.symm
  have hp' := (e1.2 w).1 hp
  exact ((Turn.head hp' t).sameL e1.symm).sameR e2
/-- What a store holds besides the chain of a key. -/
def St.rest (s : St) (k : Key) : List Item := (othersA k s.cs).map (fun p => p.2.item)
theorem St.some_perm {s : St} {k : Key} {c : Ch} (ha : Apart s.cs) (h : getA k s.cs = some c) : s.pieces.Perm (c.item :: Item.blk s.gs 166 #[.map (some s.gm), .int .i64 s.live] :: Item.map s.gm (mapA Ch.g s.cs) :: s.rest k) := by
  have h1 := (getA_perm ha h).map (fun p => p.2.item)
  unfold St.pieces St.rest
  exact ((h1.cons _).cons _).trans ((List.Perm.swap _ _ _).cons _ |>.trans (List.Perm.swap _ _ _))
theorem St.none_eq {s : St} {k : Key} (h : getA k s.cs = none) : s.pieces = Item.blk s.gs 166 #[.map (some s.gm), .int .i64 s.live] :: Item.map s.gm (mapA Ch.g s.cs) :: s.rest k := by
  unfold St.pieces St.rest
  rw [getA_none h]
theorem St.put_perm {s : St} {k : Key} {c : Ch} {lv : Int} : (St.pieces ⟨s.gs, s.gm, lv, putA k c s.cs⟩).Perm (c.item :: Item.blk s.gs 166 #[.map (some s.gm), .int .i64 lv] :: Item.map s.gm (mapA Ch.g (putA k c s.cs)) :: s.rest k) := by
  have h1 := (putA_perm k c s.cs).map (fun p => p.2.item)
  unfold St.pieces St.rest
  exact ((h1.cons _).cons _).trans ((List.Perm.swap _ _ _).cons _ |>.trans (List.Perm.swap _ _ _))
theorem same_one {x : Item} : (Item.all [x]).Same x :=
  ⟨fun k => ⟨fun ⟨i, hi, ho⟩ => by simp only [List.mem_cons, List.not_mem_nil, or_false] at hi; subst hi; exact ho, fun h => ⟨x, by simp, h⟩⟩, fun w => ⟨fun h => h.1 x (by simp), fun h => ⟨fun i hi => by simp only [List.mem_cons, List.not_mem_nil, or_false] at hi; subst hi; exact h, List.pairwise_singleton _ _⟩⟩⟩
theorem same_boxed {L : List Item} {b : Item} : (Item.all [b, Item.all L]).Same (Item.all (b :: L)) := by
  refine (same_perm (List.Perm.swap _ _ _)).trans (Item.Same.trans same_flat (same_perm ?_))
  exact (List.perm_append_comm (l₁ := L) (l₂ := [b]))
theorem same_cons {b : Item} {L M : List Item} (h : L.Perm M) : (Item.all (b :: L)).Same (Item.all (b :: M)) := same_perm (h.cons b)
theorem split_some {s : St} {k : Key} {c : Ch} {b : Item} (ha : Apart s.cs) (h : getA k s.cs = some c) : (Item.all [b, s.item]).Same (Item.all (c.item :: b :: Item.blk s.gs 166 #[.map (some s.gm), .int .i64 s.live] :: Item.map s.gm (mapA Ch.g s.cs) :: s.rest k)) :=
  same_boxed.trans ((same_cons (St.some_perm ha h)).trans (same_perm (List.Perm.swap _ _ _)))
theorem split_none {s : St} {k : Key} {b : Item} (h : getA k s.cs = none) : (Item.all [b, s.item]).Same (Item.all (b :: Item.blk s.gs 166 #[.map (some s.gm), .int .i64 s.live] :: Item.map s.gm (mapA Ch.g s.cs) :: s.rest k)) := by
  have := same_boxed (L := s.pieces) (b := b)
  have e := St.none_eq h
  rw [← e]
  exact this
theorem join_put {s : St} {k : Key} {c : Ch} {b : Item} {lv : Int} : (Item.all (c.item :: b :: Item.blk s.gs 166 #[.map (some s.gm), .int .i64 lv] :: Item.map s.gm (mapA Ch.g (putA k c s.cs)) :: s.rest k)).Same (Item.all [b, St.item ⟨s.gs, s.gm, lv, putA k c s.cs⟩]) :=
  Item.Same.symm (same_boxed.trans ((same_cons St.put_perm).trans (same_perm (List.Perm.swap _ _ _))))
theorem map_turn {w w' : World} {gm n : Nat} {m m' : List (Key × Nat)} (h : (Item.map gm m).P w) (ho : w'.ownsMap Tryz.prog 9 chR gm n (dS m')) (hg : w.grownBy w' (some gm)) : Turn (Item.map gm m) w (Item.map gm m') w' :=
  ⟨map_tight ho, (Keeps.of_grown hg).mono (fun i hi => .inl (by injection hi with hi)), fun k hk => .inl hk⟩
theorem bad_0 {v : Vn} (h : v.bad = 0) : 1 ≤ v.key.size ∧ v.key.size ≤ 255 ∧ v.value.length ≤ 4096 ∧ (v.dead = true → v.value.length = 0) ∧ 0 ≤ v.stamp ∧ v.stamp ≤ 4611686018427387904 := by
  unfold Vn.bad at h
  split at h
  · cases h
  · split at h
    · cases h
    · split at h
      · cases h
      · rename_i h1 h2 h3
        refine ⟨by omega, by omega, by omega, fun hd => ?_, by omega, by omega⟩
        have : ¬ 0 < v.value.length := fun hl => h2 (.inr ⟨hd, hl⟩)
        omega
def liveN (cs : List (Key × Ch)) : Nat := (cs.map fun p => weightL p.1.length p.2.ls).sum
/-- A store of so many versions at most. -/
structure St.ok (s : St) (N : Nat) : Prop where
  apart : Apart s.cs
  many : s.cs.length ≤ N
  each : ∀ p ∈ s.cs, p.1.length ≤ 255 ∧ 0 < p.2.ls.length ∧ p.2.ls.length ≤ N ∧ ∀ l ∈ p.2.ls, l.x.v.length ≤ 4096
  live : s.live = (liveN s.cs : Nat)
theorem weightL_le {k : Nat} {ls : List Lk} (hk : k ≤ 255) (h : ∀ l ∈ ls, l.x.v.length ≤ 4096) : weightL k ls ≤ 4351 := by
  unfold weightL
  split
  · omega
  · have : (lastL ls).x.v.length ≤ 4096 := by
      unfold lastL
      cases hl : ls.getLast? with
      | none => simp [Lk.none]
      | some l => exact h l (List.mem_of_getLast? hl)
    omega
theorem liveN_le {cs : List (Key × Ch)} (h : ∀ p ∈ cs, p.1.length ≤ 255 ∧ ∀ l ∈ p.2.ls, l.x.v.length ≤ 4096) : liveN cs ≤ 4351 * cs.length := by
  induction cs with
  | nil => simp [liveN]
  | cons p r ih =>
    have h1 := ih (fun q hq => h q (List.mem_cons_of_mem _ hq))
    have h2 := weightL_le (h p (List.mem_cons_self ..)).1 (h p (List.mem_cons_self ..)).2
    show weightL _ _ + liveN r ≤ _
    rw [List.length_cons]; omega
theorem liveN_get {cs : List (Key × Ch)} {k : Key} (ha : Apart cs) : liveN cs = weightL k.length (Ch.ofO (getA k cs)) + liveN (othersA k cs) := by
  cases hg : getA k cs with
  | none => rw [getA_none hg]; simp [Ch.ofO, weightL]
  | some c =>
    have := ((getA_perm ha hg).map fun p => weightL p.1.length p.2.ls).sum_nat
    unfold liveN
    rw [this]; rfl
theorem liveN_put {cs : List (Key × Ch)} {k : Key} {c : Ch} : liveN (putA k c cs) = weightL k.length c.ls + liveN (othersA k cs) := by
  have := ((putA_perm k c cs).map fun p => weightL p.1.length p.2.ls).sum_nat
  unfold liveN
  rw [this]; rfl
theorem St.ok.o {s : St} {N : Nat} (h : s.ok N) (hN : N ≤ 1099511627776) {w : World} (hp : s.item.P w) : St.okO w (some s) :=
  ⟨hp, fun p hpp => ⟨Nat.le_trans (h.each p hpp).2.2.1 hN, (h.each p hpp).2.2.2⟩⟩
theorem ok_put {s : St} {N : Nat} (h : s.ok N) {k : Key} {c : Ch} {l : Lk} {lv : Int} (hk : k.length ≤ 255) (hc : c.ls = Ch.ofO (getA k s.cs) ++ [l]) (hl : l.x.v.length ≤ 4096) (hlv : lv = (liveN (putA k c s.cs) : Nat)) : (St.mk s.gs s.gm lv (putA k c s.cs)).ok (N + 1) := by
  refine ⟨apart_put h.apart, ?_, fun p hp => ?_, hlv⟩
  · show (putA k c s.cs).length ≤ _
    rw [(putA_perm k c s.cs).length_eq, List.length_cons]
    have := List.length_filter_le (fun p : Key × Ch => !(p.1 == k)) s.cs
    have := h.many
    show (othersA k s.cs).length + 1 ≤ _
    unfold othersA
    omega
  · have hp : p ∈ putA k c s.cs := hp
    rcases List.mem_cons.1 ((putA_perm k c s.cs).mem_iff.1 hp) with rfl | hp
    · refine ⟨hk, ?_, ?_, ?_⟩
      · rw [hc]; simp
      · rw [hc, List.length_append, List.length_singleton]
        cases hg : getA k s.cs with
        | none => simp [Ch.ofO]
        | some c0 => have := (h.each _ (getA_mem hg)).2.2.1; show c0.ls.length + 1 ≤ _; simp only at this; omega
      · intro x hx
        simp only at hx
        rw [hc] at hx
        rcases List.mem_append.1 hx with hx | hx
        · cases hg : getA k s.cs with
          | none => rw [hg] at hx; cases hx
          | some c0 => rw [hg] at hx; exact (h.each _ (getA_mem hg)).2.2.2 x hx
        · simp only [List.mem_cons, List.not_mem_nil, or_false] at hx; subst hx; exact hl
    · obtain ⟨h1, h2, h3, h4⟩ := h.each p (List.mem_filter.1 hp).1
      exact ⟨h1, h2, by omega, h4⟩
end Go.Proofs.YtmnpchncmbnddaaGreat
/- Stores: New, Apply, by contract. -/
attribute [local go_sem ↓] Go.wp_at_zero Go.wp_at_succ
namespace Go.Proofs.YtmnpchncmbnddaaGreat
open Go.RowKit

/-- What refuses a version; 0: nothing. -/
def St.errOf (s : St) (v : Vn) : Int :=
  if v.bad ≠ 0 then v.bad else if 0 < (Ch.ofO (getA v.key.data.toList s.cs)).length ∧ v.stamp ≤ (lastL (Ch.ofO (getA v.key.data.toList s.cs))).x.st then 130 else 0
def ApplyPost (s : St) (v : Vn) (N : Nat) (w : World) (e : Ending) (w' : World) : Prop :=
  e = .returned (.int .i64 (s.errOf v)) ∧
    (s.errOf v ≠ 0 ∧ Below w.heap.size w w' ∨
     s.errOf v = 0 ∧ ∃ (c : Ch) (l : Lk) (lv : Int), c.ls = Ch.ofO (getA v.key.data.toList s.cs) ++ [l] ∧ l.x = ⟨v.stamp, v.value, v.dead⟩ ∧
       (St.mk s.gs s.gm lv (putA v.key.data.toList c s.cs)).ok (N + 1) ∧ Turn s.item w (St.item ⟨s.gs, s.gm, lv, putA v.key.data.toList c s.cs⟩) w')
theorem stown_n {w : World} {B c n : Nat} {A : Option Addr} {l : List UInt8} (hr : BReads w B A l) (hl : l.length ≤ 140737488355328) (hn : n = l.length) :
    Calls Tryz.prog 104 #[.slice A n c] w fun e w' => ∃ A2 c2, e = .returned (.slice A2 n c2) ∧ BOwns w' w.heap.size (.slice A2 n c2) l ∧ Below w.heap.size w w' := by
  subst hn
  refine (stown_any hr hl).mono ?_
  rintro e w2 ⟨v2, rfl, ho, hb⟩
  obtain ⟨A2, c2, rfl, _, _⟩ := BOwns.slice ho
  exact ⟨A2, c2, rfl, ho, hb⟩
/-- Add's outcomes. -/
def AddOut (h : Ch) (l : Lk) (w : World) (e : Ending) (w' : World) : Prop :=
  ∃ m : Int, e = .returned (.int .i64 m) ∧ (m = 130 ∧ AddBad h l ∧ Below w.heap.size w w' ∨ m = 0 ∧ ¬ AddBad h l ∧ ∃ A' c', Turn h.core w (Ch.core ⟨h.g, A', c', h.ls ++ [l]⟩) w')
theorem cadd_n {w : World} {h : Ch} (hp : h.item.P w) (hn : h.ls.length ≤ 1099511627775) (l : Lk) {st : Int} {A : Option Addr} {n c : Nat} {d : Bool} (hl : l.cells = [.int .i64 st, .slice A n c, .bool d]) :
    Calls Tryz.prog 131 #[.pointer (some ⟨h.g, 0, none⟩), .agg #[.int .i64 st, .slice A n c, .bool d]] w (AddOut h l w) := by
  have := cadd_any hp hn l
  rw [hl] at this
  refine this.mono ?_
  rintro e w' (⟨h1, rfl, h2⟩ | ⟨h1, rfl, A', c', t⟩)
  · exact ⟨130, rfl, .inl ⟨rfl, h1, h2⟩⟩
  · exact ⟨0, rfl, .inr ⟨rfl, h1, A', c', t⟩⟩
theorem addOut_keeps {w w' : World} {h : Ch} {l : Lk} {m : Int} (hm : m = 130 ∧ AddBad h l ∧ Below w.heap.size w w' ∨ m = 0 ∧ ¬ AddBad h l ∧ ∃ A' c', Turn h.core w (Ch.core ⟨h.g, A', c', h.ls ++ [l]⟩) w') : Keeps h.core.own w w' := by
  rcases hm with ⟨_, _, hb⟩ | ⟨_, _, A', c', t⟩
  · exact Keeps.of_below hb _
  · exact t.k
theorem core_own {h : Ch} {k : Nat} (hk : h.core.own k) : h.item.own k := by
  obtain ⟨i, hi, ho⟩ := hk
  simp only [List.mem_cons, List.not_mem_nil, or_false] at hi
  rcases hi with rfl | rfl
  · exact ⟨_, List.mem_cons_self .., ho⟩
  · exact ⟨_, List.mem_cons_of_mem _ (List.mem_cons_self ..), ho⟩
theorem errOf_0 {s : St} {key : ByteArray} {st : Int} {val : List UInt8} {dd : Bool} {C0 : Ch} {l : Lk} (hb : 0 = Vn.bad ⟨key, st, val, dd⟩) (hc : C0.ls = Ch.ofO (getA key.data.toList s.cs)) (hl : l.x = ⟨st, val, dd⟩) (hn : ¬ AddBad C0 l) : s.errOf ⟨key, st, val, dd⟩ = 0 := by
  unfold St.errOf
  rw [if_neg (by rw [← hb]; simp), if_neg]
  rintro ⟨h1, h2⟩
  refine hn (.inr ?_)
  rw [hc, hl]
  exact ⟨h1, h2⟩
theorem errOf_130 {s : St} {key : ByteArray} {st : Int} {val : List UInt8} {dd : Bool} {C0 : Ch} {l : Lk} (hb : 0 = Vn.bad ⟨key, st, val, dd⟩) (hc : C0.ls = Ch.ofO (getA key.data.toList s.cs)) (hl : l.x = ⟨st, val, dd⟩) (h0 : 0 ≤ st) (hn : AddBad C0 l) : s.errOf ⟨key, st, val, dd⟩ = 130 := by
  unfold St.errOf
  rw [if_neg (by rw [← hb]; simp), if_pos]
  unfold AddBad at hn
  rw [hc, hl] at hn
  rcases hn with h | h
  · exact absurd h (by simp only; omega)
  · exact h
set_option maxRecDepth 100000 in
set_option maxHeartbeats 3200000 in
theorem snew_any {w : World} : Calls Tryz.prog 87 #[] w fun e w' => ∃ gs gm, e = .returned (.pointer (some ⟨gs, 0, none⟩)) ∧ (St.mk gs gm 0 []).ok 0 ∧ Turn (Item.all []) w (St.item ⟨gs, gm, 0, []⟩) w' := by
  have hmm := @run_makeMap Tryz.prog
  have HM := Lib.hid (World.ownsMap_made (H := Unit) w Tryz.prog 9 chR)
  have BM := Lib.hid ((Below.refl w.heap.size w).alloc (Nat.le_refl _) (.map #[] 0))
  go_enter Tryz.func87, Tryz.ntmps87
  go_wp2
  go_ret
  refine ⟨w.heap.size + 1, w.heap.size, rfl, ⟨List.Pairwise.nil, Nat.le_refl 0, fun p hp => (by cases hp), rfl⟩, ?_⟩
  have t1 := (Turn.none_ (w := w)).more (y := Item.map w.heap.size []) BM.out HM.out (fun k hk => Nat.le_of_eq hk.symm)
  have t2 := t1.more (y := Item.blk (w.heap.size + 1) 166 #[.map (some w.heap.size), .int .i64 0]) (w'' := (w.alloc (.map #[] 0)).alloc (.cells #[.map (some w.heap.size), .int .i64 0] 166)) ((Below.refl _ _).alloc (Nat.le_refl _) _) (by
    have := Blk.new (w.alloc (.map #[] 0)) 166 #[.map (some w.heap.size), .int .i64 0]
    rw [show (w.alloc (.map #[] 0)).heap.size = w.heap.size + 1 from by simp] at this
    exact this) (fun k hk => by
    have hk : k = w.heap.size + 1 := hk
    subst hk; simp)
  exact t2
set_option maxRecDepth 100000 in
set_option maxHeartbeats 6400000 in
theorem apply_any {w : World} {s : St} {N : Nat} (h : s.item.P w) (hok : s.ok N) (hN : N ≤ 1099511627775) {A : Option Addr} {c : Nat} (v : Vn) (hr : BReads w w.heap.size A v.value) (hks : v.key.size ≤ maxLen) (hvs : v.value.length ≤ 140737488355328) :
    Calls Tryz.prog 64 #[.pointer (some ⟨s.gs, 0, none⟩), .agg (v.cells A c)] w (ApplyPost s v N w) := by
  have HP := Lib.hid h
  have HOK := Lib.hid hok
  have HR := Lib.hid hr
  have HMAY := Lib.hid (fun (w : World) => stmay_any (w := w) (A := A) (c := c) v)
  obtain ⟨key, st, val, dd⟩ := v
  simp only [Vn.cells] at HMAY hks hvs HR ⊢
  obtain ⟨bad, hbad⟩ : ∃ b, b = Vn.bad ⟨key, st, val, dd⟩ := ⟨_, rfl⟩
  have HBAD := Lib.hid hbad
  rw [← hbad] at HMAY
  clear h hok hr hbad
  obtain ⟨vn, hvn⟩ : ∃ n, n = val.length := ⟨_, rfl⟩
  have HVN := Lib.hid hvn
  rw [← hvn] at HMAY hvs ⊢
  clear hvn
  have B1 := Lib.hid ((Below.refl w.heap.size w).alloc (Nat.le_refl _) (.cells #[.string key, .int .i64 st, .slice A vn c, .bool dd] 51))
  have K1 := Lib.hid (Blk.new w 51 #[.string key, .int .i64 st, .slice A vn c, .bool dd])
  have qM : ∀ (w : World) (r : Option Nat), (binOp .eql 164 (.map r) (.map none)).run Tryz.prog w = .ok (.bool r.isNone) w := fun w r => run_eql_map_nil w _ _ _ r Tryz.underlying164
  go_enter Tryz.func64, Tryz.ntmps64
  go_wp2_with fail
  obtain ⟨W, hW⟩ : ∃ W, W = w.alloc (.cells #[.string key, .int .i64 st, .slice A vn c, .bool dd] 51) := ⟨_, rfl⟩
  rw [← hW] at B1 K1 ⊢
  clear hW
  refine (HMAY.out W).mono ?_
  rintro e w2 ⟨rfl, hb⟩
  have B2 := Lib.hid (B1.out.trans (hb.mono B1.out.size))
  have K2 := Lib.hid (K1.out.below' hb)
  clear hb B1 K1 HMAY
  by_cases h0 : bad = 0
  case neg =>
    have d0 : decide (bad = 0) = false := decide_eq_false h0
    go_wp2
    go_ret
    have e : s.errOf ⟨key, st, val, dd⟩ = bad := by unfold St.errOf; rw [← HBAD.out, if_pos h0]
    exact ⟨by rw [e]; rfl, .inl ⟨by rw [e]; exact h0, B2.out⟩⟩
  case pos =>
    subst h0
    obtain ⟨hk1, hk2, hv4, hvd, hst0, hst1⟩ := bad_0 HBAD.out.symm
    simp only at hk1 hk2 hv4 hvd hst0 hst1
    rw [← HVN.out] at hv4
    have HST := Lib.hid (show 0 ≤ st ∧ st ≤ 4611686018427387904 from ⟨hst0, hst1⟩)
    have HK1 := Lib.hid (show key.size ≤ 255 from hk2)
    obtain ⟨T, hT⟩ : ∃ T, T = w.heap.size := ⟨_, rfl⟩
    have HT := Lib.hid hT
    rw [← hT] at K2 ⊢
    have T2 : Hid (Turn s.item w (Item.all [Item.blk T 51 #[.string key, .int .i64 st, .slice A vn c, .bool dd], s.item]) w2) := Lib.hid ((Turn.one (Turn.refl HP.out)).more B2.out K2.out (fun k hk => by
      have hk : k = T := hk
      omega))
    have k0 := K2.out.cell 0
    simp at k0
    have HOF := Lib.hid (sof_any (s := s) (key := key) (Item.go HP.out B2.out) (Nat.le_trans hk2 (by decide)))
    clear hT hk1 hvd hst0 hst1
    cases hg : getA key.data.toList s.cs with
    | none =>
      rw [hg, show ptrC none = .pointer none from rfl] at HOF
      have HG := Lib.hid hg
      have T3 := Lib.hid (T2.out.sameR (split_none hg))
      have HC0 : Hid ((Ch.mk w2.heap.size none 0 []).ls = Ch.ofO (getA key.data.toList s.cs)) := Lib.hid (by rw [hg]; rfl)
      clear hg
      go_wp2_with fail
      refine HOF.out.mono ?_
      rintro e w3 ⟨rfl, rfl⟩
      go_upto_region 9 with fail
      obtain ⟨X, hX⟩ : ∃ X, X = w2.alloc (.cells #[.slice none 0 0] 215) := ⟨_, rfl⟩
      have T4 : Hid (Turn s.item w (Item.all ((Ch.mk w2.heap.size none 0 []).item :: _)) X) := Lib.hid (by
        have hKX : Blk X w2.heap.size 215 #[.slice none 0 0] := by rw [hX]; exact Blk.new w2 _ _
        have hbX : Below w2.heap.size w2 X := by rw [hX]; exact (Below.refl _ _).alloc (Nat.le_refl _) _
        refine T3.out.more hbX ?_ ?_
        · refine ⟨fun i hi => ?_, ?_⟩
          · have hi : i ∈ [Item.blk w2.heap.size 215 #[.slice none 0 0], Item.rowT 135 3 (.slice none 0 0) 0 []] := hi
            simp only [List.mem_cons, List.not_mem_nil, or_false] at hi
            rcases hi with rfl | rfl
            · exact hKX
            · exact ⟨rfl, .inl ⟨rfl, rfl⟩⟩
          · show List.Pairwise _ [Item.blk w2.heap.size 215 #[.slice none 0 0], Item.rowT 135 3 (.slice none 0 0) 0 []]
            refine List.pairwise_cons.2 ⟨fun j hj k _ h2 => ?_, List.pairwise_singleton _ _⟩
            simp only [List.mem_cons, List.not_mem_nil, or_false] at hj
            subst hj
            cases h2
        · rintro k ⟨i, hi, ho⟩
          have hi : i ∈ [Item.blk w2.heap.size 215 #[.slice none 0 0], Item.rowT 135 3 (.slice none 0 0) 0 []] := hi
          simp only [List.mem_cons, List.not_mem_nil, or_false] at hi
          rcases hi with rfl | rfl
          · exact Nat.le_of_eq ho.symm
          · cases ho)
      have BX : Hid (Below w.heap.size w X) := Lib.hid (by rw [hX]; exact B2.out.alloc B2.out.size _)
      obtain ⟨C0, hC0⟩ : ∃ C0, C0 = Ch.mk w2.heap.size none 0 [] := ⟨_, rfl⟩
      have HC4 : Hid (∀ l ∈ C0.ls, l.x.v.length ≤ 4096) := Lib.hid (by rw [hC0]; intro l hl; cases hl)
      have HCN : Hid (C0.ls.length ≤ 1099511627775) := Lib.hid (by rw [hC0]; exact Nat.zero_le _)
      rw [← hX, show w2.heap.size = C0.g from by rw [hC0]]
      rw [← hC0] at T4
      have HC0 : Hid (C0.ls = Ch.ofO (getA key.data.toList s.cs)) := Lib.hid (by rw [hC0]; exact HC0.out)
      clear hX hC0 T3 K2 k0 T2
      obtain ⟨b, hb⟩ : ∃ b, b = weightL key.size C0.ls := ⟨_, rfl⟩
      have HB := Lib.hid hb
      have hb43 : b ≤ 4351 := by rw [hb]; exact weightL_le HK1.out HC4.out
      have HW : Hid (Calls Tryz.prog 130 #[.pointer (some ⟨s.gs, 0, none⟩), .string key] X fun e w' => e = .returned (.int .i64 b) ∧ Below X.heap.size X w') := Lib.hid (by
        have := weight_any (so := some s) (key := key) (HOK.out.o (by omega) (Item.go HP.out BX.out)) hk2
        rw [show St.getO (some s) key = getA key.data.toList s.cs from rfl, ← HC0.out, ← hb] at this
        exact this)
      have y := (show Blk X T 51 #[.string key, .int .i64 st, .slice A vn c, .bool dd] from T4.out.get (i := 1) rfl).cell 0
      simp at y
      clear hb
      go_wp2_with fail
      refine HW.out.mono ?_
      rintro e w4 ⟨rfl, hb4⟩
      have T5 := Lib.hid ((T4.out.go hb4).go (Below.refl _ _).drew)
      have B5 := Lib.hid (BX.out.trans (hb4.mono BX.out.size)).drew
      clear hb4 y HW T4
      go_upto_region 10 with fail
      have KB := Lib.hid (show Blk w4.drew T 51 #[.string key, .int .i64 st, .slice A vn c, .bool dd] from T5.out.get (i := 1) rfl)
      have y0 := KB.out.cell 0
      have y1 := KB.out.cell 1
      have y2 := KB.out.cell 2
      have y3 := KB.out.cell 3
      simp at y0 y1 y2 y3
      have HRD := Lib.hid (HR.out.below B5.out)
      have HVL := Lib.hid (show val.length ≤ 140737488355328 from by have := HVN.out; omega)
      go_region_held3 (fun w' => w'.cell? ⟨T, 0, none⟩ = some (.string key) ∧ w'.cell? ⟨T, 1, none⟩ = some (.int .i64 st) ∧ w'.cell? ⟨T, 2, none⟩ = some (.slice A vn c) ∧ w'.cell? ⟨T, 3, none⟩ = some (.bool dd)) (first | (with_reducible exact ⟨y0, y1, y2, y3⟩) | (with_reducible exact ⟨x0, x1, x2, x3⟩) | (with_reducible exact ⟨z0, z1, z2, z3⟩) | go_keep) (first | (go_at_call 104; refine (stown_n (w := w4.drew) HRD.out HVL.out HVN.out).mono ?_; rintro e w5 ⟨A2, c2, rfl, ho, hb5⟩; have B6 := Lib.hid (B5.out.trans (hb5.mono B5.out.size)); have T6 := Lib.hid (T5.out.more (y := Lk.item ⟨⟨st, val, dd⟩, A2, c2⟩) hb5 (by rw [HVN.out] at ho; exact owns_less ho (Nat.zero_le _)) (fun k hk => (ho.lt (by rw [HVN.out]; exact hk)).1)); have KB5 := Lib.hid (show Blk w5 T 51 #[.string key, .int .i64 st, .slice A vn c, .bool dd] from T6.out.get (i := 2) rfl); have x0 := KB5.out.cell 0; have x1 := KB5.out.cell 1; have x2 := KB5.out.cell 2; have x3 := KB5.out.cell 3; simp at x0 x1 x2 x3; have HLC : Hid (Lk.cells ⟨⟨st, val, dd⟩, A2, c2⟩ = [.int .i64 st, .slice A2 vn c2, .bool dd]) := Lib.hid (by rw [HVN.out]; rfl); clear ho hb5) | (go_at_call 131; refine (cadd_n (w := w5) (h := C0) (T6.out.get (i := 1) rfl) HCN.out ⟨⟨st, val, dd⟩, A2, c2⟩ HLC.out).mono ?_; rintro e w6 ⟨m, rfl, hm⟩; have HM := Lib.hid hm; have KB6 := Lib.hid (show Blk w6 T 51 #[.string key, .int .i64 st, .slice A vn c, .bool dd] from Item.far (x := Item.blk T 51 #[.string key, .int .i64 st, .slice A vn c, .bool dd]) KB5.out (addOut_keeps hm) (fun k hk hk2 => (List.pairwise_cons.1 (List.pairwise_cons.1 T6.out.p.2).2).1 _ (List.mem_cons_self ..) k (core_own hk2) hk)); have z0 := KB6.out.cell 0; have z1 := KB6.out.cell 1; have z2 := KB6.out.cell 2; have z3 := KB6.out.cell 3; simp at z0 z1 z2 z3; clear hm))
      rcases HM.out with ⟨rfl, hbad, hb6⟩ | ⟨rfl, hgood, A', c', t⟩
      · have BE := Lib.hid ((T6.out.k.trans (Keeps.of_below hb6 (fun _ => False)) (fun _ h => h.elim)))
        have e := errOf_130 (l := ⟨⟨st, val, dd⟩, A2, c2⟩) HBAD.out HC0.out rfl HST.out.1 hbad
        have BB := Lib.hid (B6.out.trans (hb6.mono B6.out.size))
        clear HM hbad hb6
        go_wp2
        go_ret
        exact ⟨by rw [e]; rfl, .inl ⟨by rw [e]; decide, BB.out⟩⟩
      · have e := errOf_0 (l := ⟨⟨st, val, dd⟩, A2, c2⟩) HBAD.out HC0.out rfl hgood
        have HE := Lib.hid e
        have T7 := Lib.hid (T6.out.trans (add_pieces (h := C0) (h' := ⟨C0.g, A', c', C0.ls ++ [⟨⟨st, val, dd⟩, A2, c2⟩]⟩) (l := ⟨⟨st, val, dd⟩, A2, c2⟩) rfl T6.out.p t))
        obtain ⟨C1, hC1⟩ : ∃ C1, C1 = Ch.mk C0.g A' c' (C0.ls ++ [⟨⟨st, val, dd⟩, A2, c2⟩]) := ⟨_, rfl⟩
        have HC1 := Lib.hid hC1
        rw [← hC1] at T7
        have m0 := (show Blk w6 s.gs 166 #[.map (some s.gm), .int .i64 s.live] from T7.out.get (i := 2) rfl).cell 0
        simp at m0
        clear HM hgood t e hC1 x0 x1 x2 x3 y0 y1 y2 y3
        go_upto_region 15 with fail
        have hmp : (Item.map s.gm (mapA Ch.g s.cs)).P w6.drew := (T7.out.go (Below.refl _ _).drew).get (i := 3) rfl
        obtain ⟨w7, hrun, hown7, hgr7⟩ := World.ownsMap.update (w := w6.drew) hmp (Go.Maps.string_keyed Tryz.underlying9) Tryz.underlying164 (n := (mapA Ch.g s.cs).length) (by
          have := HOK.out.many
          unfold mapA maxLen; rw [List.length_map]; omega) (key := .string key) (val := .pointer (some ⟨C0.g, 0, none⟩)) (WideMaps.keyOf_string_mk Tryz.underlying9 hks) (d := .lit (.int .i64 C0.g)) (ps := []) rfl
        rw [dS_put] at hown7
        have T8 := Lib.hid ((T7.out.go (Below.refl _ _).drew).step (i := 3) rfl (map_turn (w := w6.drew) (w' := w7) hmp hown7 hgr7))
        clear hown7 hgr7 hmp
        go_region
        clear hrun m0
        have hg1 : C1.g = C0.g := by rw [HC1.out]
        have T9 : Hid (Turn s.item w (Item.all (C1.item :: Item.blk T 51 #[.string key, .int .i64 st, .slice A vn c, .bool dd] :: Item.blk s.gs 166 #[.map (some s.gm), .int .i64 s.live] :: Item.map s.gm (mapA Ch.g (putA key.data.toList C1 s.cs)) :: s.rest key.data.toList)) w7) := Lib.hid (by
          have := T8.out
          rw [← hg1, ← putA_map] at this
          exact this)
        have hls : C1.ls = Ch.ofO (getA key.data.toList s.cs) ++ [⟨⟨st, val, dd⟩, A2, c2⟩] := by rw [HC1.out, ← HC0.out]
        have HLS := Lib.hid hls
        obtain ⟨lvn, hlvn⟩ : ∃ x, x = liveN (putA key.data.toList C1 s.cs) := ⟨_, rfl⟩
        have OK2 := Lib.hid (ok_put (s := s) (N := N) HOK.out (k := key.data.toList) (c := C1) (l := ⟨⟨st, val, dd⟩, A2, c2⟩) (lv := (lvn : Nat)) HK1.out hls (by have := HVN.out; show val.length ≤ 4096; omega) (by rw [hlvn]))
        obtain ⟨a, ha⟩ : ∃ a, a = weightL key.size C1.ls := ⟨_, rfl⟩
        have ha43 : a ≤ 4351 := by
          rw [ha]
          exact weightL_le HK1.out (fun l hl => (OK2.out.each _ (getA_mem getA_put)).2.2.2 l hl)
        have HW2 : Hid (Calls Tryz.prog 130 #[.pointer (some ⟨s.gs, 0, none⟩), .string key] w7.drew fun e w' => e = .returned (.int .i64 a) ∧ Below w7.heap.size w7.drew w') := Lib.hid (by
          have hp2 : (St.item ⟨s.gs, s.gm, s.live, putA key.data.toList C1 s.cs⟩).P w7.drew := ((T9.out.sameR join_put).go (Below.refl _ _).drew).get (i := 1) rfl
          have := weight_any (w := w7.drew) (so := some ⟨s.gs, s.gm, s.live, putA key.data.toList C1 s.cs⟩) (key := key) ⟨hp2, fun p hp => by
            obtain ⟨_, _, h3, h4⟩ := OK2.out.each p hp
            exact ⟨by omega, h4⟩⟩ hk2
          rw [show St.getO (some ⟨s.gs, s.gm, s.live, putA key.data.toList C1 s.cs⟩) key = getA key.data.toList (putA key.data.toList C1 s.cs) from rfl, getA_put, show Ch.ofO (some C1) = C1.ls from rfl, ← ha] at this
          exact this)
        have hO1 := liveN_get (k := key.data.toList) HOK.out.apart
        have hO2 := liveN_put (cs := s.cs) (k := key.data.toList) (c := C1)
        rw [show key.data.toList.length = key.size from rfl, ← HC0.out, ← HB.out] at hO1
        rw [show key.data.toList.length = key.size from rfl, ← ha, ← hlvn] at hO2
        have hlv0 := HOK.out.live
        have hlvb := liveN_le (cs := s.cs) (fun p hp => ⟨(HOK.out.each p hp).1, (HOK.out.each p hp).2.2.2⟩)
        have hmany := HOK.out.many
        have hlvs : s.live + ((a : Int) - (b : Int)) = (lvn : Int) := by rw [hlv0]; omega
        have hlv1 : 0 ≤ s.live ∧ s.live ≤ 4785074604081152 := by rw [hlv0]; omega
        obtain ⟨lvo, hlvo⟩ : ∃ x, x = s.live := ⟨_, rfl⟩
        rw [← hlvo] at hlvs hlv1 T9
        have HWR := Lib.hid (show IntKind.i64.wrap (lvo + IntKind.i64.wrap ((a : Int) - (b : Int))) = (lvn : Int) from by
          rw [show IntKind.i64.wrap ((a : Int) - (b : Int)) = (a : Int) - (b : Int) from by rw [IntKind.wrap_i64]; omega, IntKind.wrap_i64]; omega)
        have KBS := Lib.hid (show Blk w7 s.gs 166 #[.map (some s.gm), .int .i64 lvo] from T9.out.get (i := 2) rfl)
        have KBX := Lib.hid (show Blk w7 T 51 #[.string key, .int .i64 st, .slice A vn c, .bool dd] from T9.out.get (i := 1) rfl)
        have y1 : w7.drew.cell? ⟨s.gs, 1, none⟩ = some (.int .i64 lvo) := by have := KBS.out.cell 1; simpa using this
        have yf : w7.drew.frozen? ⟨s.gs, 1, none⟩ = false := KBS.out.frozen 1
        have y0 : w7.drew.cell? ⟨T, 0, none⟩ = some (.string key) := by have := KBX.out.cell 0; simpa using this
        obtain ⟨hlva, hlvc⟩ := hlv1
        have TT : Hid (∀ (w8 : World) (z : Int), Below w7.heap.size w7 w8 → z = (lvn : Nat) → Turn s.item w (St.item ⟨s.gs, s.gm, (lvn : Nat), putA key.data.toList C1 s.cs⟩) (w8.setCell ⟨s.gs, 1, none⟩ (.int .i64 z))) := Lib.hid (fun w8 z hb e => by
          subst e
          have t1 := T9.out.go hb
          have t2 := t1.step (i := 2) rfl (Turn.cell (show Blk w8 s.gs 166 #[.map (some s.gm), .int .i64 lvo] from t1.get (i := 2) rfl) 1 (.int .i64 ((lvn : Nat) : Int)))
          have t3 := t2.sameR (join_put (lv := (lvn : Nat)))
          exact (t3.sub (M := [St.item ⟨s.gs, s.gm, (lvn : Nat), putA key.data.toList C1 s.cs⟩]) (List.Sublist.cons _ (List.Sublist.refl _))).sameR same_one)
        clear hg1 T8 hls hlvn ha hO1 hO2 hlv0 hlvb hmany hlvs hlvo z0 z1 z2 z3
        go_upto_region 16 with fail
        go_region_law ((go_simp; go_at_call 130; refine HW2.out.mono ?_; rintro e w8 ⟨rfl, hb8⟩; have HB8 := Lib.hid (show Below w7.heap.size w7 w8 from ⟨hb8.os, hb8.tape, hb8.output, hb8.size, hb8.block⟩); have x1 := (hb8.cell (p := ⟨s.gs, 1, none⟩) KBS.out.lt).trans y1; have xf := (hb8.frozen (p := ⟨s.gs, 1, none⟩) KBS.out.lt).trans yf; have x0 := (hb8.cell (p := ⟨T, 0, none⟩) KBX.out.lt).trans y0; clear hb8))
        all_goals clear y0 y1 yf
        all_goals go_wp2
        all_goals go_ret
        all_goals refine ⟨by rw [HE.out]; rfl, Or.inr ⟨HE.out, C1, ⟨⟨st, val, dd⟩, A2, c2⟩, (lvn : Nat), HLS.out, rfl, OK2.out, ?_⟩⟩
        all_goals exact TT.out _ _ HB8.out HWR.out
    | some C0 =>
      rw [hg, show ptrC (some C0) = .pointer (some ⟨C0.g, 0, none⟩) from rfl] at HOF
      have HG := Lib.hid hg
      have T3 := Lib.hid (T2.out.sameR (split_some HOK.out.apart hg))
      have HC0 : Hid (C0.ls = Ch.ofO (getA key.data.toList s.cs)) := Lib.hid (by rw [hg]; rfl)
      clear hg
      go_wp2_with fail
      refine HOF.out.mono ?_
      rintro e w3 ⟨rfl, rfl⟩
      go_upto_region 9 with fail
      obtain ⟨X, hX⟩ : ∃ X, X = w2 := ⟨_, rfl⟩
      have HC4 : Hid (∀ l ∈ C0.ls, l.x.v.length ≤ 4096) := Lib.hid (fun l hl => (HOK.out.each _ (getA_mem HG.out)).2.2.2 l hl)
      have HCN : Hid (C0.ls.length ≤ 1099511627775) := Lib.hid (Nat.le_trans (HOK.out.each _ (getA_mem HG.out)).2.2.1 hN)
      rw [← hX] at T3 B2 ⊢
      have T4 := T3
      have BX := B2
      clear hX T3 K2 k0 T2
      obtain ⟨b, hb⟩ : ∃ b, b = weightL key.size C0.ls := ⟨_, rfl⟩
      have HB := Lib.hid hb
      have hb43 : b ≤ 4351 := by rw [hb]; exact weightL_le HK1.out HC4.out
      have HW : Hid (Calls Tryz.prog 130 #[.pointer (some ⟨s.gs, 0, none⟩), .string key] X fun e w' => e = .returned (.int .i64 b) ∧ Below X.heap.size X w') := Lib.hid (by
        have := weight_any (so := some s) (key := key) (HOK.out.o (by omega) (Item.go HP.out BX.out)) hk2
        rw [show St.getO (some s) key = getA key.data.toList s.cs from rfl, ← HC0.out, ← hb] at this
        exact this)
      have y := (show Blk X T 51 #[.string key, .int .i64 st, .slice A vn c, .bool dd] from T4.out.get (i := 1) rfl).cell 0
      simp at y
      clear hb
      go_wp2_with fail
      refine HW.out.mono ?_
      rintro e w4 ⟨rfl, hb4⟩
      have T5 := Lib.hid ((T4.out.go hb4).go (Below.refl _ _).drew)
      have B5 := Lib.hid (BX.out.trans (hb4.mono BX.out.size)).drew
      clear hb4 y HW T4
      go_upto_region 10 with fail
      have KB := Lib.hid (show Blk w4.drew T 51 #[.string key, .int .i64 st, .slice A vn c, .bool dd] from T5.out.get (i := 1) rfl)
      have y0 := KB.out.cell 0
      have y1 := KB.out.cell 1
      have y2 := KB.out.cell 2
      have y3 := KB.out.cell 3
      simp at y0 y1 y2 y3
      have HRD := Lib.hid (HR.out.below B5.out)
      have HVL := Lib.hid (show val.length ≤ 140737488355328 from by have := HVN.out; omega)
      go_region_held3 (fun w' => w'.cell? ⟨T, 0, none⟩ = some (.string key) ∧ w'.cell? ⟨T, 1, none⟩ = some (.int .i64 st) ∧ w'.cell? ⟨T, 2, none⟩ = some (.slice A vn c) ∧ w'.cell? ⟨T, 3, none⟩ = some (.bool dd)) (first | (with_reducible exact ⟨y0, y1, y2, y3⟩) | (with_reducible exact ⟨x0, x1, x2, x3⟩) | (with_reducible exact ⟨z0, z1, z2, z3⟩) | go_keep) (first | (go_at_call 104; refine (stown_n (w := w4.drew) HRD.out HVL.out HVN.out).mono ?_; rintro e w5 ⟨A2, c2, rfl, ho, hb5⟩; have B6 := Lib.hid (B5.out.trans (hb5.mono B5.out.size)); have T6 := Lib.hid (T5.out.more (y := Lk.item ⟨⟨st, val, dd⟩, A2, c2⟩) hb5 (by rw [HVN.out] at ho; exact owns_less ho (Nat.zero_le _)) (fun k hk => (ho.lt (by rw [HVN.out]; exact hk)).1)); have KB5 := Lib.hid (show Blk w5 T 51 #[.string key, .int .i64 st, .slice A vn c, .bool dd] from T6.out.get (i := 2) rfl); have x0 := KB5.out.cell 0; have x1 := KB5.out.cell 1; have x2 := KB5.out.cell 2; have x3 := KB5.out.cell 3; simp at x0 x1 x2 x3; have HLC : Hid (Lk.cells ⟨⟨st, val, dd⟩, A2, c2⟩ = [.int .i64 st, .slice A2 vn c2, .bool dd]) := Lib.hid (by rw [HVN.out]; rfl); clear ho hb5) | (go_at_call 131; refine (cadd_n (w := w5) (h := C0) (T6.out.get (i := 1) rfl) HCN.out ⟨⟨st, val, dd⟩, A2, c2⟩ HLC.out).mono ?_; rintro e w6 ⟨m, rfl, hm⟩; have HM := Lib.hid hm; have KB6 := Lib.hid (show Blk w6 T 51 #[.string key, .int .i64 st, .slice A vn c, .bool dd] from Item.far (x := Item.blk T 51 #[.string key, .int .i64 st, .slice A vn c, .bool dd]) KB5.out (addOut_keeps hm) (fun k hk hk2 => (List.pairwise_cons.1 (List.pairwise_cons.1 T6.out.p.2).2).1 _ (List.mem_cons_self ..) k (core_own hk2) hk)); have z0 := KB6.out.cell 0; have z1 := KB6.out.cell 1; have z2 := KB6.out.cell 2; have z3 := KB6.out.cell 3; simp at z0 z1 z2 z3; clear hm))
      rcases HM.out with ⟨rfl, hbad, hb6⟩ | ⟨rfl, hgood, A', c', t⟩
      · have BE := Lib.hid ((T6.out.k.trans (Keeps.of_below hb6 (fun _ => False)) (fun _ h => h.elim)))
        have e := errOf_130 (l := ⟨⟨st, val, dd⟩, A2, c2⟩) HBAD.out HC0.out rfl HST.out.1 hbad
        have BB := Lib.hid (B6.out.trans (hb6.mono B6.out.size))
        clear HM hbad hb6
        go_wp2
        go_ret
        exact ⟨by rw [e]; rfl, .inl ⟨by rw [e]; decide, BB.out⟩⟩
      · have e := errOf_0 (l := ⟨⟨st, val, dd⟩, A2, c2⟩) HBAD.out HC0.out rfl hgood
        have HE := Lib.hid e
        have T7 := Lib.hid (T6.out.trans (add_pieces (h := C0) (h' := ⟨C0.g, A', c', C0.ls ++ [⟨⟨st, val, dd⟩, A2, c2⟩]⟩) (l := ⟨⟨st, val, dd⟩, A2, c2⟩) rfl T6.out.p t))
        obtain ⟨C1, hC1⟩ : ∃ C1, C1 = Ch.mk C0.g A' c' (C0.ls ++ [⟨⟨st, val, dd⟩, A2, c2⟩]) := ⟨_, rfl⟩
        have HC1 := Lib.hid hC1
        rw [← hC1] at T7
        have m0 := (show Blk w6 s.gs 166 #[.map (some s.gm), .int .i64 s.live] from T7.out.get (i := 2) rfl).cell 0
        simp at m0
        clear HM hgood t e hC1 x0 x1 x2 x3 y0 y1 y2 y3
        go_upto_region 15 with fail
        have hmp : (Item.map s.gm (mapA Ch.g s.cs)).P w6.drew := (T7.out.go (Below.refl _ _).drew).get (i := 3) rfl
        obtain ⟨w7, hrun, hown7, hgr7⟩ := World.ownsMap.update (w := w6.drew) hmp (Go.Maps.string_keyed Tryz.underlying9) Tryz.underlying164 (n := (mapA Ch.g s.cs).length) (by
          have := HOK.out.many
          unfold mapA maxLen; rw [List.length_map]; omega) (key := .string key) (val := .pointer (some ⟨C0.g, 0, none⟩)) (WideMaps.keyOf_string_mk Tryz.underlying9 hks) (d := .lit (.int .i64 C0.g)) (ps := []) rfl
        rw [dS_put] at hown7
        have T8 := Lib.hid ((T7.out.go (Below.refl _ _).drew).step (i := 3) rfl (map_turn (w := w6.drew) (w' := w7) hmp hown7 hgr7))
        clear hown7 hgr7 hmp
        go_region
        clear hrun m0
        have hg1 : C1.g = C0.g := by rw [HC1.out]
        have T9 : Hid (Turn s.item w (Item.all (C1.item :: Item.blk T 51 #[.string key, .int .i64 st, .slice A vn c, .bool dd] :: Item.blk s.gs 166 #[.map (some s.gm), .int .i64 s.live] :: Item.map s.gm (mapA Ch.g (putA key.data.toList C1 s.cs)) :: s.rest key.data.toList)) w7) := Lib.hid (by
          have := T8.out
          rw [← hg1, ← putA_map] at this
          exact this)
        have hls : C1.ls = Ch.ofO (getA key.data.toList s.cs) ++ [⟨⟨st, val, dd⟩, A2, c2⟩] := by rw [HC1.out, ← HC0.out]
        have HLS := Lib.hid hls
        obtain ⟨lvn, hlvn⟩ : ∃ x, x = liveN (putA key.data.toList C1 s.cs) := ⟨_, rfl⟩
        have OK2 := Lib.hid (ok_put (s := s) (N := N) HOK.out (k := key.data.toList) (c := C1) (l := ⟨⟨st, val, dd⟩, A2, c2⟩) (lv := (lvn : Nat)) HK1.out hls (by have := HVN.out; show val.length ≤ 4096; omega) (by rw [hlvn]))
        obtain ⟨a, ha⟩ : ∃ a, a = weightL key.size C1.ls := ⟨_, rfl⟩
        have ha43 : a ≤ 4351 := by
          rw [ha]
          exact weightL_le HK1.out (fun l hl => (OK2.out.each _ (getA_mem getA_put)).2.2.2 l hl)
        have HW2 : Hid (Calls Tryz.prog 130 #[.pointer (some ⟨s.gs, 0, none⟩), .string key] w7.drew fun e w' => e = .returned (.int .i64 a) ∧ Below w7.heap.size w7.drew w') := Lib.hid (by
          have hp2 : (St.item ⟨s.gs, s.gm, s.live, putA key.data.toList C1 s.cs⟩).P w7.drew := ((T9.out.sameR join_put).go (Below.refl _ _).drew).get (i := 1) rfl
          have := weight_any (w := w7.drew) (so := some ⟨s.gs, s.gm, s.live, putA key.data.toList C1 s.cs⟩) (key := key) ⟨hp2, fun p hp => by
            obtain ⟨_, _, h3, h4⟩ := OK2.out.each p hp
            exact ⟨by omega, h4⟩⟩ hk2
          rw [show St.getO (some ⟨s.gs, s.gm, s.live, putA key.data.toList C1 s.cs⟩) key = getA key.data.toList (putA key.data.toList C1 s.cs) from rfl, getA_put, show Ch.ofO (some C1) = C1.ls from rfl, ← ha] at this
          exact this)
        have hO1 := liveN_get (k := key.data.toList) HOK.out.apart
        have hO2 := liveN_put (cs := s.cs) (k := key.data.toList) (c := C1)
        rw [show key.data.toList.length = key.size from rfl, ← HC0.out, ← HB.out] at hO1
        rw [show key.data.toList.length = key.size from rfl, ← ha, ← hlvn] at hO2
        have hlv0 := HOK.out.live
        have hlvb := liveN_le (cs := s.cs) (fun p hp => ⟨(HOK.out.each p hp).1, (HOK.out.each p hp).2.2.2⟩)
        have hmany := HOK.out.many
        have hlvs : s.live + ((a : Int) - (b : Int)) = (lvn : Int) := by rw [hlv0]; omega
        have hlv1 : 0 ≤ s.live ∧ s.live ≤ 4785074604081152 := by rw [hlv0]; omega
        obtain ⟨lvo, hlvo⟩ : ∃ x, x = s.live := ⟨_, rfl⟩
        rw [← hlvo] at hlvs hlv1 T9
        have HWR := Lib.hid (show IntKind.i64.wrap (lvo + IntKind.i64.wrap ((a : Int) - (b : Int))) = (lvn : Int) from by
          rw [show IntKind.i64.wrap ((a : Int) - (b : Int)) = (a : Int) - (b : Int) from by rw [IntKind.wrap_i64]; omega, IntKind.wrap_i64]; omega)
        have KBS := Lib.hid (show Blk w7 s.gs 166 #[.map (some s.gm), .int .i64 lvo] from T9.out.get (i := 2) rfl)
        have KBX := Lib.hid (show Blk w7 T 51 #[.string key, .int .i64 st, .slice A vn c, .bool dd] from T9.out.get (i := 1) rfl)
        have y1 : w7.drew.cell? ⟨s.gs, 1, none⟩ = some (.int .i64 lvo) := by have := KBS.out.cell 1; simpa using this
        have yf : w7.drew.frozen? ⟨s.gs, 1, none⟩ = false := KBS.out.frozen 1
        have y0 : w7.drew.cell? ⟨T, 0, none⟩ = some (.string key) := by have := KBX.out.cell 0; simpa using this
        obtain ⟨hlva, hlvc⟩ := hlv1
        have TT : Hid (∀ (w8 : World) (z : Int), Below w7.heap.size w7 w8 → z = (lvn : Nat) → Turn s.item w (St.item ⟨s.gs, s.gm, (lvn : Nat), putA key.data.toList C1 s.cs⟩) (w8.setCell ⟨s.gs, 1, none⟩ (.int .i64 z))) := Lib.hid (fun w8 z hb e => by
          subst e
          have t1 := T9.out.go hb
          have t2 := t1.step (i := 2) rfl (Turn.cell (show Blk w8 s.gs 166 #[.map (some s.gm), .int .i64 lvo] from t1.get (i := 2) rfl) 1 (.int .i64 ((lvn : Nat) : Int)))
          have t3 := t2.sameR (join_put (lv := (lvn : Nat)))
          exact (t3.sub (M := [St.item ⟨s.gs, s.gm, (lvn : Nat), putA key.data.toList C1 s.cs⟩]) (List.Sublist.cons _ (List.Sublist.refl _))).sameR same_one)
        clear hg1 T8 hls hlvn ha hO1 hO2 hlv0 hlvb hmany hlvs hlvo z0 z1 z2 z3
        go_upto_region 16 with fail
        go_region_law ((go_simp; go_at_call 130; refine HW2.out.mono ?_; rintro e w8 ⟨rfl, hb8⟩; have HB8 := Lib.hid (show Below w7.heap.size w7 w8 from ⟨hb8.os, hb8.tape, hb8.output, hb8.size, hb8.block⟩); have x1 := (hb8.cell (p := ⟨s.gs, 1, none⟩) KBS.out.lt).trans y1; have xf := (hb8.frozen (p := ⟨s.gs, 1, none⟩) KBS.out.lt).trans yf; have x0 := (hb8.cell (p := ⟨T, 0, none⟩) KBX.out.lt).trans y0; clear hb8))
        all_goals clear y0 y1 yf
        all_goals go_wp2
        all_goals go_ret
        all_goals refine ⟨by rw [HE.out]; rfl, Or.inr ⟨HE.out, C1, ⟨⟨st, val, dd⟩, A2, c2⟩, (lvn : Nat), HLS.out, rfl, OK2.out, ?_⟩⟩
        all_goals exact TT.out _ _ HB8.out HWR.out
end Go.Proofs.YtmnpchncmbnddaaGreat
/- Clocks: New, Now, Worn, Next, by contract. -/
namespace Go.Proofs.YtmnpchncmbnddaaGreat
open Go.RowKit

end Go.Proofs.YtmnpchncmbnddaaGreat
/- Commits: fits, anyAbove, Conflict, by contract. -/
namespace Go.Proofs.YtmnpchncmbnddaaGreat
open Go.RowKit

theorem vn_at {w : World} {B : Nat} {A : Option Addr} {l : List Vn} (h : kVn.Sl w B A l) {i : Nat} (hi : i < l.length) :
    ∃ b off A' c', A = some ⟨b, off, none⟩ ∧ b < B ∧ (l[i]).ints ∧ w.cell? ⟨b, off + i * 4, none⟩ = some (.string (l[i]).key) ∧ w.cell? ⟨b, off + i * 4 + 1, none⟩ = some (.int .i64 (l[i]).stamp) ∧
      w.cell? ⟨b, off + i * 4 + 2, none⟩ = some (.slice A' (l[i]).value.length c') ∧ w.cell? ⟨b, off + i * 4 + 3, none⟩ = some (.bool (l[i]).dead) ∧ BReads w B A' (l[i]).value ∧ (l[i]).value.length ≤ c' := by
  obtain ⟨b, off, hA, hb, hr⟩ := h (by omega)
  obtain ⟨cs, hR, hc⟩ := hr i _ (List.getElem?_eq_getElem hi)
  obtain ⟨A', c', rfl, h1, h2, h3⟩ := vn_R hR
  exact ⟨b, off, A', c', hA, hb, h1, hc 0 _ rfl, hc 1 _ rfl, hc 2 _ rfl, hc 3 _ rfl, h2, h3⟩
end Go.Proofs.YtmnpchncmbnddaaGreat
/- Commits: may, by contract. -/
namespace Go.Proofs.YtmnpchncmbnddaaGreat
open Go.RowKit

def leB (a b : ByteArray) : Bool := Op.bytesLess a.toList b.toList || a.toList == b.toList
end Go.Proofs.YtmnpchncmbnddaaGreat
/- Commits: asked, by contract. -/
namespace Go.Proofs.YtmnpchncmbnddaaGreat
open Go.RowKit

end Go.Proofs.YtmnpchncmbnddaaGreat
/- Commits: Entries, by contract. -/
namespace Go.Proofs.YtmnpchncmbnddaaGreat
open Go.RowKit

end Go.Proofs.YtmnpchncmbnddaaGreat
