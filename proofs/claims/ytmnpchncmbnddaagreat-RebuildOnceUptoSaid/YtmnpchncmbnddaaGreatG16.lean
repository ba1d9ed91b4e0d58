/- Contracts and plain laws that this claim leans on, laid together: Get, Pv. -/
import Derived.Test.YtmnpchncmbnddaaGreatG15
import Derived.Test.YtmnpchncmbnddaaGreatCmtL2
set_option linter.all false
set_option linter.unusedVariables false
set_option linter.unusedSimpArgs false
set_option linter.unnecessarySimpa false
/- Chain.count, Chain.At, Store.Get, by contract. -/
namespace Go.Proofs.YtmnpchncmbnddaaGreat
open Go.RowKit Go.Shelf Go.Sort

/-- How many links have a stamp at or below one. -/
def cntL (ls : List Lk) (s : Int) : Nat := (List.range ls.length).countP fun i => !(match ls[i]? with | some l => decide (s < l.x.st) | none => true)
/-- Stamps rise. -/
def Ups (ls : List Lv) : Prop := ls.Pairwise fun a b => a.st < b.st
theorem ups_at {ls : List Lk} (h : Ups (ls.map Lk.x)) : ls.Pairwise fun a b => a.x.st < b.x.st := by
  unfold Ups at h
  rw [List.pairwise_map] at h
  exact h
theorem cntL_filter {ls : List Lk} {s : Int} : cntL ls s = (ls.filter fun l => decide (l.x.st ≤ s)).length := by
  unfold cntL
  rw [← List.countP_eq_length_filter]
  have h : ls.countP (fun l => decide (l.x.st ≤ s)) = ((List.range ls.length).map fun i => ls[i]?).countP (fun o => match o with | some l => decide (l.x.st ≤ s) | none => false) := by
    have e : (List.range ls.length).map (fun i => ls[i]?) = ls.map some := by
      apply List.ext_getElem
      · simp
      · intro i h1 h2
        simp at h1 h2
        simp [h2]
    rw [e, List.countP_map]; rfl
  rw [h, List.countP_map]
  apply List.countP_congr
  intro i hi
  rw [List.mem_range] at hi
  simp only [List.getElem?_eq_getElem hi, Function.comp]
  rw [Bool.not_eq_true', decide_eq_false_iff_not, decide_eq_true_eq]
  omega
/-- With stamps that rise, those at or below one come first. -/
theorem ups_take {ls : List Lk} {s : Int} (h : Ups (ls.map Lk.x)) : ls.filter (fun l => decide (l.x.st ≤ s)) = ls.take (cntL ls s) := by
  rw [cntL_filter]
  have hp := ups_at h
  clear h
  induction ls with
  | nil => rfl
  | cons a r ih =>
    obtain ⟨h1, h2⟩ := List.pairwise_cons.1 hp
    by_cases ha : a.x.st ≤ s
    · rw [List.filter_cons_of_pos (by simpa using ha), List.length_cons, List.take_succ_cons, ← ih h2]
    · have : (a :: r).filter (fun l => decide (l.x.st ≤ s)) = [] := by
        rw [List.filter_eq_nil_iff]
        intro x hx
        rcases List.mem_cons.1 hx with rfl | hx
        · simpa using ha
        · have := h1 x hx
          simp only [decide_eq_true_eq]; omega
      rw [this]; rfl
set_option maxRecDepth 100000 in
set_option maxHeartbeats 1600000 in
theorem count1_any {W : World} {b1 b2 g i N c : Nat} {b : Nat} {s st : Int} (hN : i < N) (hNb : N ≤ 1099511627776) (hc : N ≤ c) (y1 : W.cell? ⟨b1, 0, none⟩ = some (.pointer (some ⟨g, 0, none⟩))) (y2 : W.cell? ⟨b2, 0, none⟩ = some (.int .i64 s)) (y3 : W.cell? ⟨g, 0, none⟩ = some (.slice (some ⟨b, 0, none⟩) N c)) (y4 : W.cell? ⟨b, i * 3, none⟩ = some (.int .i64 st)) :
    Calls Tryz.prog 191 #[.int .i64 i, .pointer (some ⟨b1, 0, none⟩), .pointer (some ⟨b2, 0, none⟩)] W fun e w' => e = .returned (.bool (decide (s < st))) ∧ ∃ q, w' = W.drewN q := by
  have hi : (i : Int) < (N : Int) := by omega
  clear hN
  go_enter Tryz.func191, Tryz.ntmps191
  go_upto_region 1 with fail
  go_quiet (fail)
  go_wp2
  go_ret
  exact ⟨rfl, _, rfl⟩
set_option maxRecDepth 100000 in
set_option maxHeartbeats 1600000 in
theorem chcount_any {w : World} {ch : Ch} (h : ch.item.P w) (hl : ch.ls.length ≤ 1099511627776) (hu : Ups (ch.ls.map Lk.x)) {s : Int} :
    Calls Tryz.prog 143 #[.pointer (some ⟨ch.g, 0, none⟩), .int .i64 s] w fun e w' => e = .returned (.int .i64 (cntL ch.ls s : Nat)) ∧ Below w.heap.size w w' := by
  obtain ⟨W, hW⟩ : ∃ W, W = (w.alloc (.cells #[.pointer (some ⟨ch.g, 0, none⟩)] 137)).alloc (.cells #[.int .i64 s] 3) := ⟨_, rfl⟩
  have B1 : Below w.heap.size w W := by rw [hW]; exact ((Below.refl _ _).alloc (Nat.le_refl _) _).alloc (by simp) _
  have k1 : W.cell? ⟨w.heap.size, 0, none⟩ = some (.pointer (some ⟨ch.g, 0, none⟩)) := by rw [hW]; exact ((Blk.new w _ _).alloc _).cell 0
  have k2 : W.cell? ⟨w.heap.size + 1, 0, none⟩ = some (.int .i64 s) := by
    rw [hW]
    have := (Blk.new (w.alloc (.cells #[.pointer (some ⟨ch.g, 0, none⟩)] 137)) 3 #[.int .i64 s]).cell 0
    simpa using this
  have hsz : W.heap.size = w.heap.size + 2 := by rw [hW]; simp
  have hI : ch.item.P W := Item.go h B1
  have k3 : W.cell? ⟨ch.g, 0, none⟩ = some ch.row := (Ch.blk hI).cell 0
  have hgl := (Ch.blk hI).lt
  have hmono : ∀ a b, a ≤ b → b < ch.ls.length → (match ch.ls[a]? with | some l => decide (s < l.x.st) | none => true) = true → (match ch.ls[b]? with | some l => decide (s < l.x.st) | none => true) = true := by
    intro a b hab hb ha
    rw [List.getElem?_eq_getElem (by omega)] at ha
    rw [List.getElem?_eq_getElem hb]
    simp only [decide_eq_true_eq] at ha ⊢
    rcases Nat.eq_or_lt_of_le hab with e | e
    · subst e; exact ha
    · have hp := ups_at hu
      rw [List.pairwise_iff_getElem] at hp
      have := hp a b (by omega) hb e
      omega
  have HS := Lib.hid (Any.sort_Search (P := Tryz.prog) (ρ := Tryz.searchL_ren) Tryz.searchL 191 #[.pointer (some ⟨w.heap.size, 0, none⟩), .pointer (some ⟨w.heap.size + 1, 0, none⟩)] ch.ls.length (fun i => match ch.ls[i]? with | some l => decide (s < l.x.st) | none => true) W (fun args w => callFunc_enter 191 Tryz.f191 _ Tryz.func191 rfl (by kernel_rfl) args w) (by omega)
    (fun m os i hi => by
      obtain ⟨g, hA, hg, hcc, _, _, hcell⟩ := rowT_at (Ch.rowP hI) (by omega)
      have y4 : W.cell? ⟨g, i * 3, none⟩ = some (.int .i64 (ch.ls[i]).x.st) := by
        rw [hcell _ (by omega)]; exact (lkCells_at hi).1
      refine (count1_any (W := grow (W.drewN m) os) (b1 := w.heap.size) (b2 := w.heap.size + 1) (g := ch.g) (i := i) (N := ch.ls.length) (c := ch.c) (b := g) (s := s) (st := (ch.ls[i]).x.st) hi hl hcc (cell_grown (by simp; omega) k1 m os) (cell_grown (by simp; omega) k2 m os) (cell_grown hgl (by rw [k3]; unfold Ch.row; rw [hA]) m os) (cell_grown hg y4 m os)).mono ?_
      rintro e w' ⟨rfl, q, rfl⟩
      rw [List.getElem?_eq_getElem hi]
      exact ⟨rfl, q, #[], by rw [grow_empty]⟩) hmono)
  obtain ⟨n, hn⟩ : ∃ n, n = cntL ch.ls s := ⟨_, rfl⟩
  have HS2 : Hid (Calls Tryz.prog 190 #[.int .i64 ch.ls.length, .func (.func 191) #[] #[.pointer (some ⟨w.heap.size, 0, none⟩), .pointer (some ⟨w.heap.size + 1, 0, none⟩)]] W fun e w' => e = .returned (.int .i64 n) ∧ ∃ q os, w' = grow (W.drewN q) os) := Lib.hid (by rw [hn]; exact HS.out)
  have HB1 := Lib.hid B1
  have HSZ := Lib.hid hsz
  have HW := Lib.hid hW
  have y3 : W.cell? ⟨ch.g, 0, none⟩ = some (.slice ch.A ch.ls.length ch.c) := k3
  have hg0 : ch.g < w.heap.size := (Ch.blk h).lt
  have y0 : w.cell? ⟨ch.g, 0, none⟩ = some (.slice ch.A ch.ls.length ch.c) := (Ch.blk h).cell 0
  obtain ⟨N, hN⟩ : ∃ N, N = ch.ls.length := ⟨_, rfl⟩
  rw [← hN] at HS2 y0 y3
  obtain ⟨g, hg⟩ : ∃ g, g = ch.g := ⟨_, rfl⟩
  rw [← hg] at y0 y3 hg0 HW ⊢
  rw [← hn]
  have hmf : ∀ (fn : Fn) (first cap : Array Value) (w : World), (Instr.makeFunc fn first cap).run Tryz.prog w = .ok (.func fn first cap) w := fun _ _ _ _ => rfl
  clear h hu B1 k1 k2 k3 hsz hI hgl hmono HS hn hW hN hg hl y3
  go_enter Tryz.func143, Tryz.ntmps143
  go_wp2_with fail
  rw [← HW.out]
  refine HS2.out.mono ?_
  rintro e w' ⟨rfl, q, os, rfl⟩
  go_wp2
  go_ret
  exact ⟨rfl, HB1.out.trans ((below_grown_sl W.heap.size W q os (Nat.le_refl _)).mono HB1.out.size)⟩
set_option maxRecDepth 100000 in
theorem chcount_nil {w : World} {s : Int} : Calls Tryz.prog 143 #[.pointer none, .int .i64 s] w fun e w' => e = .returned (.int .i64 0) ∧ Below w.heap.size w w' := by
  have HB := Lib.hid (((Below.refl w.heap.size w).alloc (Nat.le_refl _) (.cells #[.pointer none] 137)).alloc (by simp) (.cells #[.int .i64 s] 3))
  go_enter Tryz.func143, Tryz.ntmps143
  go_wp2
  go_ret
  exact ⟨rfl, HB.out⟩
theorem cntL_le (ls : List Lk) (s : Int) : cntL ls s ≤ ls.length := by rw [cntL_filter]; exact List.length_filter_le _ _
/-- The newest link with a stamp at or below one. -/
def atL (ls : List Lk) (s : Int) : Lk := lastL (ls.take (cntL ls s))
theorem atL_get {ls : List Lk} {s : Int} {n : Nat} (h : cntL ls s = n + 1) : ls[n]? = some (atL ls s) := by
  have hle := cntL_le ls s
  unfold atL lastL
  rw [List.getLast?_eq_getElem?, h, List.length_take, Nat.min_eq_left (by omega), Nat.add_sub_cancel, List.getElem?_take_of_lt (by omega), List.getElem?_eq_getElem (by omega)]; rfl
set_option maxRecDepth 100000 in
set_option maxHeartbeats 1600000 in
theorem chat_any {w : World} {o : Option Ch} (h : Ch.okO w o) (hn : (Ch.ofO o).length ≤ 1099511627776) (hu : Ups ((Ch.ofO o).map Lk.x)) {s : Int} :
    Calls Tryz.prog 155 #[ptrC o, .int .i64 s] w fun e w' => e = .returned (.tuple #[.agg (atL (Ch.ofO o) s).cells.toArray, .bool (decide (0 < cntL (Ch.ofO o) s))]) ∧ Below w.heap.size w w' := by
  have hcnt : ∀ w, Ch.okO w o → Calls Tryz.prog 143 #[ptrC o, .int .i64 s] w fun e w' => e = .returned (.int .i64 (cntL (Ch.ofO o) s : Nat)) ∧ Below w.heap.size w w' := by
    intro w h
    cases o with
    | none => exact chcount_nil
    | some ch => exact chcount_any h hn hu
  have HL := Lib.hid hcnt
  have hx : ∀ W, Ch.okO W o → ∀ n, cntL (Ch.ofO o) s = n + 1 → ∃ (g b c N : Nat), ptrC o = .pointer (some ⟨g, 0, none⟩) ∧ n < N ∧ N ≤ 1099511627776 ∧ W.cell? ⟨g, 0, none⟩ = some (.slice (some ⟨b, 0, none⟩) N c) ∧
      W.cell? ⟨b, n * 3, none⟩ = some (.int .i64 (atL (Ch.ofO o) s).x.st) ∧ W.cell? ⟨b, n * 3 + 1, none⟩ = some (.slice (atL (Ch.ofO o) s).A (atL (Ch.ofO o) s).x.v.length (atL (Ch.ofO o) s).c) ∧ W.cell? ⟨b, n * 3 + 2, none⟩ = some (.bool (atL (Ch.ofO o) s).x.dead) := by
    intro W hW n hc
    have hle := cntL_le (Ch.ofO o) s
    cases o with
    | none => simp [Ch.ofO, cntL] at hc
    | some ch =>
      have hg : ch.ls[n]? = some (atL ch.ls s) := atL_get hc
      have hlt : n < ch.ls.length := (List.getElem?_eq_some_iff.1 hg).1
      obtain ⟨b, hA, hb, _, _, _, hcell⟩ := rowT_at (Ch.rowP hW) (by omega)
      have q0 := (Ch.blk hW).cell 0
      simp [Ch.row] at q0
      refine ⟨ch.g, b, ch.c, ch.ls.length, rfl, hlt, hn, by rw [q0, hA], ?_, ?_, ?_⟩
      · rw [← Nat.add_zero (n * 3), hcell _ (by omega), lkCells_get hg (by omega)]; rfl
      · rw [hcell _ (by omega), lkCells_get hg (by omega)]; rfl
      · rw [hcell _ (by omega), lkCells_get hg (by omega)]; rfl
  have HX := Lib.hid hx
  have HE := Lib.hid (show cntL (Ch.ofO o) s = 0 → atL (Ch.ofO o) s = Lk.none from fun h => by unfold atL; rw [h]; rfl)
  have HO := Lib.hid h
  have hcb := cntL_le (Ch.ofO o) s
  clear hx hcnt h hu
  obtain ⟨N, hN⟩ : ∃ n, n = cntL (Ch.ofO o) s := ⟨_, rfl⟩
  obtain ⟨V, hV⟩ : ∃ n, n = ptrC o := ⟨_, rfl⟩
  obtain ⟨LL, hLL⟩ : ∃ n, n = atL (Ch.ofO o) s := ⟨_, rfl⟩
  rw [← hN] at HL HX HE hcb ⊢
  rw [← hV] at HL HX ⊢
  rw [← hLL] at HX HE ⊢
  have hNb : N ≤ 1099511627776 := by omega
  clear hN hV hLL hcb hn
  have BA := Lib.hid ((Below.refl w.heap.size w).alloc (Nat.le_refl _) (.cells #[.int .i64 0, .slice none 0 0, .bool false] 135))
  have KA := Lib.hid (Blk.new w 135 #[.int .i64 0, .slice none 0 0, .bool false])
  go_enter Tryz.func155, Tryz.ntmps155
  go_wp2_with fail
  obtain ⟨W0, hW0⟩ : ∃ W, W = w.alloc (.cells #[.int .i64 0, .slice none 0 0, .bool false] 135) := ⟨_, rfl⟩
  rw [← hW0] at BA KA ⊢
  clear hW0
  refine (HL.out W0 (okO_go HO.out BA.out)).mono ?_
  rintro e W ⟨rfl, hbW⟩
  have KW := Lib.hid (KA.out.below' hbW)
  have BW := Lib.hid (BA.out.trans (hbW.mono BA.out.size))
  clear HL KA BA hbW
  have HBE := Lib.hid (fun u0 u1 u2 => BW.out.trans ((keeps_set3 W w.heap.size u0 u1 u2).below BW.out.size (fun i hi => Nat.le_of_eq hi.symm)))
  have r0 := KW.out.cell 0
  have r1 := KW.out.cell 1
  have r2 := KW.out.cell 2
  have f0 := KW.out.frozen 0
  have f1 := KW.out.frozen 1
  have f2 := KW.out.frozen 2
  simp at r0 r1 r2
  rcases Nat.eq_zero_or_pos N with h0 | h0
  · subst h0
    have hx := HE.out rfl
    subst hx
    clear HX HE HO
    have K1 := KW.out.put3 (.int .i64 0) (.slice none 0 0) (.bool false)
    have q0 := K1.cell 0
    have q1 := K1.cell 1
    have q2 := K1.cell 2
    unfold set3 at q0 q1 q2
    simp at q0 q1 q2
    go_wp2
    exact bodyPost_ret (v := .tuple #[.agg Lk.none.cells.toArray, .bool false]) (by simp [results, Tryz.results155, go_sem, q0, q1, q2, Lk.none, Lk.cells]) rfl ⟨rfl, HBE.out _ _ _⟩
  · obtain ⟨n, hNn⟩ : ∃ n, N = n + 1 := ⟨N - 1, by omega⟩
    obtain ⟨g, b, c, M, rfl, hnM, hM, c0, c1, c2, c3⟩ := HX.out W (okO_go HO.out BW.out) n hNn
    have d0 : decide ((N : Int) = 0) = false := decide_eq_false (by omega)
    have d1 : (N : Int) - 1 = (n : Int) := by omega
    have K1 := KW.out.put3 (.int .i64 LL.x.st) (.slice LL.A LL.x.v.length LL.c) (.bool LL.x.dead)
    have q0 := K1.cell 0
    have q1 := K1.cell 1
    have q2 := K1.cell 2
    unfold set3 at q0 q1 q2
    simp at q0 q1 q2
    have hnM' : (n : Int) < (M : Int) := by omega
    clear HX HE HO hNn
    go_wp2
    exact bodyPost_ret (v := .tuple #[.agg LL.cells.toArray, .bool true]) (by simp [results, Tryz.results155, go_sem, q0, q1, q2, Lk.none, Lk.cells]) rfl ⟨by simp [h0], HBE.out _ _ _⟩
/-- What a key has at a stamp, plainly. -/
def getF (S : PS) (k : Key) (s : Int) : Option (List UInt8) := match ((ofP S k).filter fun x => decide (x.st ≤ s)).getLast? with | some x => if x.dead then none else some x.v | none => none
theorem getF_at {ls : List Lk} {s : Int} (hu : Ups (ls.map Lk.x)) : (match ((ls.map Lk.x).filter fun x => decide (x.st ≤ s)).getLast? with | some x => if x.dead then none else some x.v | none => none) = (if 0 < cntL ls s then (if (atL ls s).x.dead then none else some (atL ls s).x.v) else none : Option (List UInt8)) := by
  have h1 : (ls.map Lk.x).filter (fun x => decide (x.st ≤ s)) = (ls.take (cntL ls s)).map Lk.x := by
    rw [← ups_take hu, List.filter_map]; rfl
  rw [h1, List.getLast?_map]
  unfold atL lastL
  by_cases h : 0 < cntL ls s
  · have hle := cntL_le ls s
    have hne : ls.take (cntL ls s) ≠ [] := by
      intro e
      have : min (cntL ls s) ls.length = 0 := by rw [← List.length_take, e]; rfl
      omega
    rw [if_pos h, List.getLast?_eq_some_getLast hne]
    rfl
  · have h0 : cntL ls s = 0 := by omega
    rw [if_neg h, h0]
    rfl
/-- Get: nothing, or new bytes. -/
def GetPost (r : Option (List UInt8)) (w : World) (e : Ending) (w' : World) : Prop :=
  r = none ∧ e = .returned (.tuple #[.slice none 0 0, .bool false]) ∧ Below w.heap.size w w' ∨
  ∃ l A c, r = some l ∧ e = .returned (.tuple #[.slice A l.length c, .bool true]) ∧ BOwns w' w.heap.size (.slice A l.length c) l ∧ Below w.heap.size w w'
set_option maxRecDepth 100000 in
set_option maxHeartbeats 1600000 in
theorem get_any {w : World} {s : St} {N : Nat} (h : s.item.P w) (hok : s.ok N) (hN : N ≤ 16777216) (hu : ∀ p ∈ s.view, Ups p.2) {key : ByteArray} (hk : key.size ≤ maxLen) {st : Int} :
    Calls Tryz.prog 97 #[.pointer (some ⟨s.gs, 0, none⟩), .string key, .int .i64 st] w (GetPost (getF s.view key.data.toList st) w) := by
  have HO := hok.o (by omega) h
  obtain ⟨o, ho⟩ : ∃ o, o = getA key.data.toList s.cs := ⟨_, rfl⟩
  have hgo := St.okO_get (key := key) HO
  rw [show St.getO (some s) key = o from ho.symm] at hgo
  have hul : Ups ((Ch.ofO o).map Lk.x) := by
    rw [ho]
    cases hg : getA key.data.toList s.cs with
    | none => exact List.Pairwise.nil
    | some ch => exact hu (key.data.toList, ch.vs) (List.mem_map.2 ⟨_, getA_mem hg, rfl⟩)
  have hls : ∀ x ∈ Ch.ofO o, x.x.v.length ≤ 4096 := by
    rw [ho]
    cases hg : getA key.data.toList s.cs with
    | none => intro x hx; cases hx
    | some ch => exact (hok.each _ (getA_mem hg)).2.2.2
  have hval : ∀ W, Ch.okO W o → 0 < cntL (Ch.ofO o) st → BReads W W.heap.size (atL (Ch.ofO o) st).A (atL (Ch.ofO o) st).x.v := by
    intro W hW hc
    obtain ⟨n, hn⟩ : ∃ n, cntL (Ch.ofO o) st = n + 1 := ⟨cntL (Ch.ofO o) st - 1, by omega⟩
    have hg := List.mem_of_getElem? (atL_get hn)
    cases o with
    | none => cases hg
    | some ch =>
      have : BOwns W 0 (.slice (atL (Ch.ofO (some ch)) st).A (atL (Ch.ofO (some ch)) st).x.v.length (atL (Ch.ofO (some ch)) st).c) (atL (Ch.ofO (some ch)) st).x.v := Ch.lk hW hg
      exact this.reads
  have hvl : (atL (Ch.ofO o) st).x.v.length ≤ 4096 := by
    by_cases hc : 0 < cntL (Ch.ofO o) st
    · obtain ⟨n, hn⟩ : ∃ n, cntL (Ch.ofO o) st = n + 1 := ⟨cntL (Ch.ofO o) st - 1, by omega⟩
      exact hls _ (List.mem_of_getElem? (atL_get hn))
    · have : cntL (Ch.ofO o) st = 0 := by omega
      unfold atL; rw [this]; simp [lastL, Lk.none]
  have HF := Lib.hid (show getF s.view key.data.toList st = (if 0 < cntL (Ch.ofO o) st then (if (atL (Ch.ofO o) st).x.dead then none else some (atL (Ch.ofO o) st).x.v) else none : Option (List UInt8)) from by
    rw [← getF_at hul]
    unfold getF
    rw [← ofO_vs, ho])
  have HOF := Lib.hid (sof_any h hk)
  have HAT := Lib.hid (chat_any (s := st) hgo.1 hgo.2.1 hul)
  have HGO := Lib.hid hgo.1
  have HV := Lib.hid hval
  obtain ⟨R, hR⟩ : ∃ R, R = getF s.view key.data.toList st := ⟨_, rfl⟩
  obtain ⟨L, hL⟩ : ∃ L, L = atL (Ch.ofO o) st := ⟨_, rfl⟩
  obtain ⟨n, hn⟩ : ∃ n, n = cntL (Ch.ofO o) st := ⟨_, rfl⟩
  rw [← hR, ← hL, ← hn] at HF
  rw [← hL, ← hn] at HAT HV
  rw [← hL] at hvl
  rw [← ho] at HOF
  rw [← hR]
  obtain ⟨gs, hgs⟩ : ∃ g, g = s.gs := ⟨_, rfl⟩
  rw [← hgs] at HOF ⊢
  obtain ⟨⟨lst, lv, ldd⟩, lA, lc⟩ := L
  simp only at hvl HF HV
  rw [show (Lk.cells ⟨⟨lst, lv, ldd⟩, lA, lc⟩).toArray = #[.int .i64 lst, .slice lA lv.length lc, .bool ldd] from rfl] at HAT
  clear HO hgo hul hls hval hR hL hn ho hgs h hok hu hk hN
  go_enter Tryz.func97, Tryz.ntmps97
  go_wp2_with fail
  refine HOF.out.mono ?_
  rintro e w' ⟨rfl, rfl⟩
  go_wp2_with fail
  refine HAT.out.mono ?_
  rintro e w1 ⟨rfl, hb⟩
  obtain ⟨W, hW⟩ : ∃ W, W = w1.alloc (.cells #[.int .i64 lst, .slice lA lv.length lc, .bool ldd] 135) := ⟨_, rfl⟩
  have HB := Lib.hid (show Below w.heap.size w W from by rw [hW]; exact hb.alloc hb.size _)
  have HW := Lib.hid hW
  clear hb hW
  have hcase : R = none ∨ 0 < n ∧ ldd = false ∧ R = some lv := by
    have := HF.out
    by_cases h0 : 0 < n
    · rw [if_pos h0] at this
      cases ldd with
      | true => exact .inl this
      | false => exact .inr ⟨h0, rfl, this⟩
    · rw [if_neg h0] at this; exact .inl this
  rcases hcase with hr | ⟨h0, rfl, hr⟩
  · have HR := Lib.hid hr
    have hd : decide (0 < n) = false ∨ ldd = true := by
      have h1 := HF.out
      rw [hr] at h1
      by_cases h0 : 0 < n
      · rw [if_pos h0] at h1
        cases ldd with
        | true => exact .inr rfl
        | false => cases h1
      · exact .inl (decide_eq_false h0)
    clear hr HV
    rcases hd with hd | rfl
    · rw [hd]
      go_wp2
      go_ret2
      exact .inl ⟨HR.out, rfl, by rw [← HW.out]; exact HB.out⟩
    · by_cases h0 : 0 < n
      · rw [decide_eq_true h0]
        clear h0
        go_wp2
        go_ret2
        exact .inl ⟨HR.out, rfl, by rw [← HW.out]; exact HB.out⟩
      · rw [decide_eq_false h0]
        clear h0
        go_wp2
        go_ret2
        exact .inl ⟨HR.out, rfl, by rw [← HW.out]; exact HB.out⟩
  · have HR := Lib.hid hr
    have HOW := Lib.hid (stown_any (w := W) (c := lc) (HV.out W (okO_go HGO.out HB.out) h0) (by omega))
    rw [decide_eq_true h0]
    clear h0 hr HV
    go_wp2_with fail
    rw [← HW.out]
    refine HOW.out.mono ?_
    rintro e w2 ⟨v2, rfl, ho2, hb2⟩
    obtain ⟨A2, c2, rfl, _, _⟩ := BOwns.slice ho2
    have HO2 := Lib.hid ho2
    have HB2 := Lib.hid (HB.out.trans (hb2.mono HB.out.size))
    clear ho2 hb2
    go_wp2
    go_ret2
    exact .inr ⟨lv, A2, c2, HR.out, rfl, owns_less HO2.out HB.out.size, HB2.out⟩
end Go.Proofs.YtmnpchncmbnddaaGreat
/- Rows of versions whose slots may show less of their bytes than there is. -/
namespace Go.Proofs.YtmnpchncmbnddaaGreat
open Go.RowKit

/-- A version in a row of one's own: what its slot shows, and what bytes there are. -/
structure Pv where
  key : ByteArray
  st : Int
  A : Option Addr
  n : Nat
  c : Nat
  l : List UInt8
  dead : Bool
def Pv.cells (p : Pv) : List Value := [.string p.key, .int .i64 p.st, .slice p.A p.n p.c, .bool p.dead]
def Pv.item (p : Pv) : Item := Item.row (.slice p.A p.l.length p.c) p.l
def pvCells (ps : List Pv) : List Value := ps.flatMap Pv.cells
def gP (A : Option Addr) (n c : Nat) (ps : List Pv) : Item := Item.all (Item.rowT 51 4 (.slice A n c) n (pvCells ps) :: ps.map Pv.item)
def pvOf (t : Hv) : Pv := ⟨t.x.key, t.x.stamp, t.A, t.x.value.length, t.c, t.x.value, t.x.dead⟩
theorem gV_gP {A : Option Addr} {n c : Nat} {hs : List Hv} : gV A n c hs = gP A n c (hs.map pvOf) := by
  unfold gV gP hvCells hvRows pvCells
  rw [List.flatMap_map, List.map_map]; rfl
theorem pvCells_get {ps : List Pv} {i j : Nat} {p : Pv} (hi : ps[i]? = some p) (hj : j < 4) : (pvCells ps)[i * 4 + j]? = p.cells[j]? := by
  unfold pvCells
  rw [List.flatMap_def]
  exact flat_get (L := ps.map Pv.cells) (n := 4) (i := i) (j := j) (x := p.cells) (fun x hx => by obtain ⟨t', _, rfl⟩ := List.mem_map.1 hx; rfl) (by rw [List.getElem?_map, hi]; rfl) hj
section
variable {w w' : World} {n c i g : Nat} {A : Option Addr} {ps : List Pv} {p p' : Pv}
theorem pv_row (h : (gP A n c ps).P w) (hi : ps[i]? = some p) : BOwns w 0 (.slice p.A p.l.length p.c) p.l :=
  Item.all_get h (x := p.item) (List.mem_cons_of_mem _ (List.mem_map.2 ⟨p, List.mem_of_getElem? hi, rfl⟩))
theorem pv_at (h : (gP A n c ps).P w) (hn : ps.length = n) (hi : ps[i]? = some p) : ∃ g, A = some ⟨g, 0, none⟩ ∧ g < w.heap.size ∧ n ≤ c ∧ (∀ k, w.frozen? ⟨g, k, none⟩ = false) ∧
    w.cell? ⟨g, i * 4, none⟩ = some (.string p.key) ∧ w.cell? ⟨g, i * 4 + 1, none⟩ = some (.int .i64 p.st) ∧ w.cell? ⟨g, i * 4 + 2, none⟩ = some (.slice p.A p.n p.c) ∧ w.cell? ⟨g, i * 4 + 3, none⟩ = some (.bool p.dead) := by
  have hin : i < n := by rw [← hn]; exact (List.getElem?_eq_some_iff.1 hi).1
  obtain ⟨g, hA, hg, hcc, _, hf, hc⟩ := rowT_at (Item.all_get h (List.mem_cons_self ..)) (by omega)
  refine ⟨g, hA, hg, hcc, hf, ?_, ?_, ?_, ?_⟩
  · rw [← Nat.add_zero (i * 4), hc _ (by omega), pvCells_get hi (by decide)]; rfl
  · rw [hc _ (by omega), pvCells_get hi (by decide)]; rfl
  · rw [hc _ (by omega), pvCells_get hi (by decide)]; rfl
  · rw [hc _ (by omega), pvCells_get hi (by decide)]; rfl
end
end Go.Proofs.YtmnpchncmbnddaaGreat
