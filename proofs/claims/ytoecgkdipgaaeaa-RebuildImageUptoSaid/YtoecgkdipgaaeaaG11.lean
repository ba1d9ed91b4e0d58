/- Contracts and plain laws that this claim leans on, laid together: Stor2, Stor3, Stor4. -/
import Derived.Test.YtoecgkdipgaaeaaG10
import Derived.BigRegion
import Derived.Deep.Cut
import Derived.Deep.AppendLies
import Derived.Deep.RegionHeld3
import Derived.Deep.DrawnRows
set_option linter.all false
set_option linter.unusedVariables false
set_option linter.unusedSimpArgs false
set_option linter.unnecessarySimpa false
/- Chains and stores: of, Len, Last, Newest, weight, own, may, by contract. -/
namespace Go.Proofs.Ytoecgkdipgaaeaa
open Go.RowKit

/-- A store that may not be there. -/
def ptrS : Option St → Value
  | some s => .pointer (some ⟨s.gs, 0, none⟩)
  | none => .pointer none
def ptrC : Option Ch → Value
  | some h => .pointer (some ⟨h.g, 0, none⟩)
  | none => .pointer none
theorem ptrG_map (o : Option Ch) : ptrG (o.map Ch.g) = ptrC o := by cases o <;> rfl
set_option maxRecDepth 100000 in
theorem sof_any {w : World} {s : St} (h : s.item.P w) {key : ByteArray} (hk : key.size ≤ maxLen) :
    Calls Try.prog 52 #[.pointer (some ⟨s.gs, 0, none⟩), .string key] w fun e w' => e = .returned (ptrC (getA key.data.toList s.cs)) ∧ w = w' := by
  have q0 := (St.blk h).cell 0
  simp at q0
  have hl := St.look h hk
  rw [ptrG_map] at hl
  obtain ⟨v, hv⟩ : ∃ v, v = ptrC (getA key.data.toList s.cs) := ⟨_, rfl⟩
  rw [← hv] at hl ⊢
  clear h hv
  go_enter Try.func52, Try.ntmps52
  go_wp2
  go_ret
  exact ⟨rfl, rfl⟩
set_option maxRecDepth 100000 in
theorem sof_nil {w : World} {key : ByteArray} :
    Calls Try.prog 52 #[.pointer none, .string key] w fun e w' => e = .returned (.pointer none) ∧ w = w' := by
  go_enter Try.func52, Try.ntmps52
  go_wp2
  go_ret
  exact ⟨rfl, rfl⟩
def Ch.ofO : Option Ch → List Lk
  | some h => h.ls
  | none => []
def Ch.okO (w : World) : Option Ch → Prop
  | some h => h.item.P w
  | none => True
section
variable {w : World} {h : Ch}
theorem Ch.blk (hp : h.item.P w) : Blk w h.g 122 #[h.row] := Item.all_get hp (List.mem_cons_self ..)
theorem Ch.rowP (hp : h.item.P w) : (Item.rowT 96 3 h.row h.ls.length (lkCells h.ls)).P w := Item.all_get hp (List.mem_cons_of_mem _ (List.mem_cons_self ..))
theorem Ch.lk (hp : h.item.P w) {l : Lk} (hl : l ∈ h.ls) : l.item.P w := Item.all_get hp (List.mem_cons_of_mem _ (List.mem_cons_of_mem _ (List.mem_map.2 ⟨l, hl, rfl⟩)))
end
set_option maxRecDepth 100000 in
theorem clen_any {w : World} {o : Option Ch} (h : Ch.okO w o) :
    Calls Try.prog 111 #[ptrC o] w fun e w' => e = .returned (.int .i64 (Ch.ofO o).length) ∧ w = w' := by
  cases o with
  | none =>
    show Calls _ _ #[.pointer none] _ fun e w' => e = .returned (.int .i64 0) ∧ w = w'
    go_enter Try.func111, Try.ntmps111
    go_wp2
    go_ret
    exact ⟨rfl, rfl⟩
  | some c =>
    have q0 := (Ch.blk h).cell 0
    simp [Ch.row] at q0
    have e : (Ch.ofO (some c)).length = c.ls.length := rfl
    rw [e]
    obtain ⟨n, hn⟩ : ∃ n, n = c.ls.length := ⟨_, rfl⟩
    rw [← hn] at q0 ⊢
    clear h hn e
    show Calls _ _ #[.pointer (some ⟨c.g, 0, none⟩)] _ _
    go_enter Try.func111, Try.ntmps111
    go_wp2
    go_ret
    exact ⟨rfl, rfl⟩
def set3 (w : World) (g : Nat) (u0 u1 u2 : Value) : World := (((w.setCell ⟨g, 0, none⟩ u0).setCell ⟨g, 1, none⟩ u1).setCell ⟨g, 2, none⟩ u2)
theorem Blk.put3 {w : World} {g : Nat} {t : TypeId} {a0 a1 a2 : Value} (h : Blk w g t #[a0, a1, a2]) (u0 u1 u2 : Value) : Blk (set3 w g u0 u1 u2) g t #[u0, u1, u2] := by
  have := (((h.set_ 0 u0).set_ 1 u1).set_ 2 u2)
  unfold set3
  simpa using this
theorem keeps_set3 (w : World) (g : Nat) (u0 u1 u2 : Value) : Keeps (fun k => k = g) w (set3 w g u0 u1 u2) :=
  (((Keeps.refl (fun k => k = g) w).setCell (p := ⟨g, 0, none⟩) (.inl rfl) u0).setCell (p := ⟨g, 1, none⟩) (.inl rfl) u1).setCell (p := ⟨g, 2, none⟩) (.inl rfl) u2
theorem okO_go {w w' : World} {o : Option Ch} (h : Ch.okO w o) (hb : Below w.heap.size w w') : Ch.okO w' o := by
  cases o with
  | none => trivial
  | some c => exact Item.go h hb
def Lk.none : Lk := ⟨⟨0, [], false⟩, Option.none, 0⟩
/-- The newest link. -/
def lastL (ls : List Lk) : Lk := ls.getLast?.getD Lk.none
theorem lk_len {ls : List Lk} : ∀ x ∈ ls.map Lk.cells, x.length = 3 := by
  intro x hx
  obtain ⟨p, _, rfl⟩ := List.mem_map.1 hx
  rfl
theorem lkCells_get {ls : List Lk} {i j : Nat} {l : Lk} (hi : ls[i]? = some l) (hj : j < 3) : (lkCells ls)[i * 3 + j]? = l.cells[j]? := by
  unfold lkCells
  rw [List.flatMap_def]
  exact flat_get lk_len (by rw [List.getElem?_map, hi]; rfl) hj
theorem lkCells_len (ls : List Lk) : (lkCells ls).length = ls.length * 3 := by
  induction ls with
  | nil => rfl
  | cons x r ih => show (x.cells ++ lkCells r).length = _; rw [List.length_append, ih, List.length_cons]; show 3 + _ = _; omega
theorem lkCells_snoc (ls : List Lk) (x : Lk) : lkCells (ls ++ [x]) = lkCells ls ++ x.cells := by simp [lkCells, List.flatMap_append]
set_option maxRecDepth 100000 in
set_option maxHeartbeats 1600000 in
theorem clast_any {w : World} {o : Option Ch} (h : Ch.okO w o) (hn : (Ch.ofO o).length ≤ 281474976710656) :
    Calls Try.prog 96 #[ptrC o] w fun e w' => e = .returned (.tuple #[.agg (lastL (Ch.ofO o)).cells.toArray, .bool (decide (0 < (Ch.ofO o).length))]) ∧ Below w.heap.size w w' := by
  have hlen := fun w h => clen_any (w := w) (o := o) h
  have HL := Lib.hid hlen
  have hx : 0 < (Ch.ofO o).length → ∃ (g b n c : Nat) (x : Lk), ptrC o = .pointer (some ⟨g, 0, none⟩) ∧ (Ch.ofO o).length = n + 1 ∧ g < w.heap.size ∧ b < w.heap.size ∧ (Ch.ofO o).length ≤ c ∧ lastL (Ch.ofO o) = x ∧ w.cell? ⟨g, 0, none⟩ = some (.slice (some ⟨b, 0, none⟩) (Ch.ofO o).length c) ∧
      w.cell? ⟨b, n * 3, none⟩ = some (.int .i64 x.x.st) ∧ w.cell? ⟨b, n * 3 + 1, none⟩ = some (.slice x.A x.x.v.length x.c) ∧ w.cell? ⟨b, n * 3 + 2, none⟩ = some (.bool x.x.dead) := by
    intro hp
    cases o with
    | none => cases hp
    | some h' =>
      have hp' : 0 < h'.ls.length := hp
      obtain ⟨b, hA, hb, hc, _, _, hcell⟩ := rowT_at (Ch.rowP h) hp'
      have q0 := (Ch.blk h).cell 0
      simp [Ch.row] at q0
      have hg := (Ch.blk h).lt
      obtain ⟨n, hn⟩ : ∃ n, h'.ls.length = n + 1 := ⟨h'.ls.length - 1, by omega⟩
      have hl : h'.ls[n]? = some (lastL h'.ls) := by
        unfold lastL
        rw [List.getLast?_eq_getElem?, hn, Nat.add_sub_cancel, List.getElem?_eq_getElem (by omega)]; rfl
      refine ⟨h'.g, b, n, h'.c, _, rfl, hn, hg, hb, hc, rfl, by rw [q0, hA]; rfl, ?_, ?_, ?_⟩
      · rw [← Nat.add_zero (n * 3), hcell _ (by omega), lkCells_get hl (by omega)]; rfl
      · rw [hcell _ (by omega), lkCells_get hl (by omega)]; rfl
      · rw [hcell _ (by omega), lkCells_get hl (by omega)]; rfl
  have he : (Ch.ofO o).length = 0 → lastL (Ch.ofO o) = Lk.none := fun h => by rw [List.eq_nil_of_length_eq_zero h]; rfl
  have HX := Lib.hid hx
  have HE := Lib.hid he
  have HO := Lib.hid h
  clear hx he hlen h
  obtain ⟨N, hN⟩ : ∃ n, n = (Ch.ofO o).length := ⟨_, rfl⟩
  obtain ⟨V, hV⟩ : ∃ n, n = ptrC o := ⟨_, rfl⟩
  obtain ⟨LL, hLL⟩ : ∃ n, n = lastL (Ch.ofO o) := ⟨_, rfl⟩
  rw [← hN] at HL HX HE hn ⊢
  rw [← hV] at HL HX ⊢
  rw [← hLL] at HX HE ⊢
  clear hN hV hLL
  have BA := Lib.hid ((Below.refl w.heap.size w).alloc (Nat.le_refl _) (.cells #[.int .i64 0, .slice none 0 0, .bool false] 96))
  have KA := Lib.hid (Blk.new w 96 #[.int .i64 0, .slice none 0 0, .bool false])
  go_enter Try.func96, Try.ntmps96
  go_wp2_with fail
  obtain ⟨W, hW⟩ : ∃ W, W = w.alloc (.cells #[.int .i64 0, .slice none 0 0, .bool false] 96) := ⟨_, rfl⟩
  rw [← hW] at BA KA ⊢
  clear hW
  refine (HL.out W (okO_go HO.out BA.out)).mono ?_
  rintro e w' ⟨rfl, rfl⟩
  clear HL
  have BE := fun u0 u1 u2 => BA.out.trans ((keeps_set3 W w.heap.size u0 u1 u2).below BA.out.size (fun i hi => Nat.le_of_eq hi.symm))
  have HBE := Lib.hid BE
  clear BE
  have r0 := KA.out.cell 0
  have r1 := KA.out.cell 1
  have r2 := KA.out.cell 2
  have f0 := KA.out.frozen 0
  have f1 := KA.out.frozen 1
  have f2 := KA.out.frozen 2
  simp at r0 r1 r2
  rcases Nat.eq_zero_or_pos N with h0 | h0
  · subst h0
    have hx := HE.out rfl
    subst hx
    clear HX HE HO
    have K1 := KA.out.put3 (.int .i64 0) (.slice none 0 0) (.bool false)
    have q0 := K1.cell 0
    have q1 := K1.cell 1
    have q2 := K1.cell 2
    unfold set3 at q0 q1 q2
    simp at q0 q1 q2
    go_wp2
    exact bodyPost_ret (v := .tuple #[.agg Lk.none.cells.toArray, .bool false]) (by simp [results, Try.results96, go_sem, q0, q1, q2, Lk.none, Lk.cells]) rfl ⟨rfl, HBE.out _ _ _⟩
  · obtain ⟨g, b, n, c, x, rfl, hNn, hg, hb, hc, hLx, c0, c1, c2, c3⟩ := HX.out h0
    have e0 : W.cell? ⟨g, 0, none⟩ = some (.slice (some ⟨b, 0, none⟩) N c) := (BA.out.cell (p := ⟨g, 0, none⟩) hg).trans c0
    have e1 : W.cell? ⟨b, n * 3, none⟩ = some (.int .i64 x.x.st) := (BA.out.cell (p := ⟨b, n * 3, none⟩) hb).trans c1
    have e2 : W.cell? ⟨b, n * 3 + 1, none⟩ = some (.slice x.A x.x.v.length x.c) := (BA.out.cell (p := ⟨b, n * 3 + 1, none⟩) hb).trans c2
    have e3 : W.cell? ⟨b, n * 3 + 2, none⟩ = some (.bool x.x.dead) := (BA.out.cell (p := ⟨b, n * 3 + 2, none⟩) hb).trans c3
    have d0 : decide ((N : Int) = 0) = false := decide_eq_false (by omega)
    have d1 : (N : Int) - 1 = (n : Int) := by omega
    have hnN : n < N := by omega
    have hgw : ¬ g = w.heap.size := by omega
    have hbw : ¬ b = w.heap.size := by omega
    subst hLx
    have K1 := KA.out.put3 (.int .i64 LL.x.st) (.slice LL.A LL.x.v.length LL.c) (.bool LL.x.dead)
    have q0 := K1.cell 0
    have q1 := K1.cell 1
    have q2 := K1.cell 2
    unfold set3 at q0 q1 q2
    simp at q0 q1 q2
    clear c0 c1 c2 c3 HX HE HO hg hb hNn
    go_upto_region 3 with fail
    go_region
    go_wp2
    exact bodyPost_ret (v := .tuple #[.agg LL.cells.toArray, .bool true]) (by simp [results, Try.results96, go_sem, q0, q1, q2, Lk.none, Lk.cells]) rfl ⟨by simp [h0], (HBE.out _ _ _).drew⟩
/-- The chain of a key, of a store that may not be there. -/
def St.getO (so : Option St) (key : ByteArray) : Option Ch := so.bind fun s => getA key.data.toList s.cs
def St.okO (w : World) : Option St → Prop
  | some s => s.item.P w ∧ ∀ p ∈ s.cs, p.2.ls.length ≤ 1099511627776 ∧ ∀ l ∈ p.2.ls, l.x.v.length ≤ 4096
  | none => True
theorem St.okO_go {w w' : World} {so : Option St} (h : St.okO w so) (hb : Below w.heap.size w w') : St.okO w' so := by
  cases so with
  | none => trivial
  | some s => exact ⟨Item.go h.1 hb, h.2⟩
theorem St.okO_get {w : World} {so : Option St} {key : ByteArray} (h : St.okO w so) : Ch.okO w (St.getO so key) ∧ (Ch.ofO (St.getO so key)).length ≤ 1099511627776 ∧ (lastL (Ch.ofO (St.getO so key))).x.v.length ≤ 4096 := by
  cases so with
  | none => exact ⟨trivial, by simp [St.getO, Ch.ofO], by simp [St.getO, Ch.ofO, lastL, Lk.none]⟩
  | some s =>
    show Ch.okO w (getA key.data.toList s.cs) ∧ (Ch.ofO (getA key.data.toList s.cs)).length ≤ _ ∧ (lastL (Ch.ofO (getA key.data.toList s.cs))).x.v.length ≤ _
    cases hg : getA key.data.toList s.cs with
    | none => exact ⟨trivial, by simp [Ch.ofO], by simp [Ch.ofO, lastL, Lk.none]⟩
    | some c =>
      obtain ⟨h1, h2⟩ := h.2 _ (getA_mem hg)
      refine ⟨St.get h.1 hg, h1, ?_⟩
      show (lastL c.ls).x.v.length ≤ 4096
      unfold lastL
      cases hl : c.ls.getLast? with
      | none => simp [Lk.none]
      | some l => exact h2 l (List.mem_of_getLast? hl)
theorem sofO_any {w : World} {so : Option St} (h : St.okO w so) {key : ByteArray} (hk : key.size ≤ maxLen) :
    Calls Try.prog 52 #[ptrS so, .string key] w fun e w' => e = .returned (ptrC (St.getO so key)) ∧ w = w' := by
  cases so with
  | none => exact sof_nil
  | some s => exact sof_any h.1 hk
set_option maxRecDepth 100000 in
set_option maxHeartbeats 1600000 in
theorem newest_any {w : World} {so : Option St} (h : St.okO w so) {key : ByteArray} (hk : key.size ≤ maxLen) :
    Calls Try.prog 84 #[ptrS so, .string key] w fun e w' => e = .returned (.tuple #[.int .i64 (lastL (Ch.ofO (St.getO so key))).x.st, .bool (decide (0 < (Ch.ofO (St.getO so key)).length))]) ∧ Below w.heap.size w w' := by
  have H1 := Lib.hid (sofO_any h hk)
  have H2 := Lib.hid (clast_any (St.okO_get (key := key) h).1 (by have := (St.okO_get (key := key) h).2.1; omega))
  clear h
  obtain ⟨V, hV⟩ : ∃ n, n = ptrS so := ⟨_, rfl⟩
  obtain ⟨C, hC⟩ : ∃ n, n = ptrC (St.getO so key) := ⟨_, rfl⟩
  obtain ⟨LL, hLL⟩ : ∃ n, n = lastL (Ch.ofO (St.getO so key)) := ⟨_, rfl⟩
  obtain ⟨b, hb⟩ : ∃ n, n = decide (0 < (Ch.ofO (St.getO so key)).length) := ⟨_, rfl⟩
  rw [← hV, ← hC] at H1
  rw [← hC, ← hLL, ← hb] at H2
  rw [← hV, ← hLL, ← hb]
  clear hV hC hLL hb hk
  obtain ⟨⟨st, v, dd⟩, A, c⟩ := LL
  rw [show (Lk.cells ⟨⟨st, v, dd⟩, A, c⟩).toArray = #[.int .i64 st, .slice A v.length c, .bool dd] from rfl] at H2
  go_enter Try.func84, Try.ntmps84
  go_wp2_with fail
  refine H1.out.mono ?_
  rintro e w' ⟨rfl, rfl⟩
  go_wp2_with fail
  refine H2.out.mono ?_
  rintro e w1 ⟨rfl, hb1⟩
  have HB := Lib.hid (hb1.alloc hb1.size (.cells #[.int .i64 st, .slice A v.length c, .bool dd] 96))
  clear hb1 H1 H2
  go_wp2
  go_ret2
  exact ⟨rfl, HB.out⟩
/-- How many bytes of a key are live. -/
def weightL (k : Nat) (ls : List Lk) : Nat := if ls.length = 0 ∨ (lastL ls).x.dead = true then 0 else k + (lastL ls).x.v.length
set_option maxRecDepth 100000 in
set_option maxHeartbeats 1600000 in
/-- How many bytes of a key are live. -/
theorem weight_any {w : World} {so : Option St} (h : St.okO w so) {key : ByteArray} (hk : key.size ≤ 255) :
    Calls Try.prog 64 #[ptrS so, .string key] w fun e w' => e = .returned (.int .i64 (weightL key.size (Ch.ofO (St.getO so key)) )) ∧ Below w.heap.size w w' := by
  have H1 := Lib.hid (sofO_any h (Nat.le_trans hk (by decide)))
  have H2 := Lib.hid (clast_any (St.okO_get (key := key) h).1 (by have := (St.okO_get (key := key) h).2.1; omega))
  have hv := (St.okO_get (key := key) h).2.2
  clear h
  unfold weightL
  obtain ⟨V, hV⟩ : ∃ n, n = ptrS so := ⟨_, rfl⟩
  obtain ⟨C, hC⟩ : ∃ n, n = ptrC (St.getO so key) := ⟨_, rfl⟩
  obtain ⟨LL, hLL⟩ : ∃ n, n = lastL (Ch.ofO (St.getO so key)) := ⟨_, rfl⟩
  obtain ⟨N, hN⟩ : ∃ n, n = (Ch.ofO (St.getO so key)).length := ⟨_, rfl⟩
  rw [← hV, ← hC] at H1
  rw [← hC, ← hLL, ← hN] at H2
  rw [← hV, ← hLL, ← hN]
  rw [← hLL] at hv
  clear hV hC hLL hN
  obtain ⟨⟨st, v, dd⟩, A, c⟩ := LL
  rw [show (Lk.cells ⟨⟨st, v, dd⟩, A, c⟩).toArray = #[.int .i64 st, .slice A v.length c, .bool dd] from rfl] at H2
  simp only at hv ⊢
  go_enter Try.func64, Try.ntmps64
  go_wp2_with fail
  refine H1.out.mono ?_
  rintro e w' ⟨rfl, rfl⟩
  go_wp2_with fail
  refine H2.out.mono ?_
  rintro e w1 ⟨rfl, hb1⟩
  have HB := Lib.hid (hb1.alloc hb1.size (.cells #[.int .i64 st, .slice A v.length c, .bool dd] 96))
  clear hb1 H1 H2
  rcases Nat.eq_zero_or_pos N with h0 | h0
  · subst h0
    go_wp2
    go_ret
    exact ⟨by simp, HB.out⟩
  · have d0 : decide (0 < N) = true := decide_eq_true h0
    have d1 : ¬ N = 0 := by omega
    cases dd
    · go_wp2
      all_goals go_ret
      all_goals exact ⟨by first | rfl | simp_all | (simp_all; omega), HB.out⟩
    · go_wp2
      go_ret
      exact ⟨by simp, HB.out⟩
theorem stown_any {w : World} {B c : Nat} {A : Option Addr} {l : List UInt8} (hr : BReads w B A l) (hl : l.length ≤ 140737488355328) :
    Calls Try.prog 54 #[.slice A l.length c] w (GivesB w l) := by
  go_enter Try.func54, Try.ntmps54
  go_wp2_with (at_builtin; refine Stop.of ?_)
  refine ⟨append_bytes (BOwns.nil w _) hr.src (by simpa using hl) (Nat.le_refl _) rfl rfl rfl rfl ?_⟩
  intro v' w1 hown hg _
  go_wp2
  go_ret
  exact ⟨v', rfl, hown, below_of_nil hg⟩
/-- What is wrong with a version; 0: nothing. -/
def Vn.bad (v : Vn) : Int :=
  if v.key.size < 1 ∨ 255 < v.key.size then 140 else if 4096 < v.value.length ∨ v.dead = true ∧ 0 < v.value.length then 141 else if v.stamp < 0 ∨ 4611686018427387904 < v.stamp then 2 else 0
set_option maxRecDepth 100000 in
set_option maxHeartbeats 1600000 in
theorem stmay_any {w : World} {A : Option Addr} {c : Nat} (v : Vn) :
    Calls Try.prog 63 #[.agg (v.cells A c)] w fun e w' => e = .returned (.int .i64 v.bad) ∧ Below w.heap.size w w' := by
  obtain ⟨key, s, p, d⟩ := v
  have HB := Lib.hid ((Below.refl w.heap.size w).alloc (Nat.le_refl _) (.cells #[.string key, .int .i64 s, .slice A p.length c, .bool d] 33))
  obtain ⟨R, hR⟩ : ∃ R, R = Vn.bad ⟨key, s, p, d⟩ := ⟨_, rfl⟩
  rw [← hR]
  have HR := Lib.hid hR
  clear hR
  unfold Vn.cells
  simp only
  cases d
  · go_enter Try.func63, Try.ntmps63
    go_wp2
    all_goals go_ret
    all_goals refine ⟨congrArg (fun n => Ending.returned (.int .i64 n)) (?_ : _ = R), HB.out⟩
    all_goals (have h := HR.out; unfold Vn.bad at h; simp only at h; rw [h]; clear h HR HB)
    all_goals (repeat' split) <;> first | rfl | omega | (simp_all; omega) | (simp_all; done)
  · go_enter Try.func63, Try.ntmps63
    go_wp2
    all_goals go_ret
    all_goals refine ⟨congrArg (fun n => Ending.returned (.int .i64 n)) (?_ : _ = R), HB.out⟩
    all_goals (have h := HR.out; unfold Vn.bad at h; simp only at h; rw [h]; clear h HR HB)
    all_goals (repeat' split) <;> first | rfl | omega | (simp_all; omega) | (simp_all; done)
end Go.Proofs.Ytoecgkdipgaaeaa
/- Chains: Add, by contract. -/
attribute [local go_sem ↓] Go.wp_at_zero Go.wp_at_succ
namespace Go.Proofs.Ytoecgkdipgaaeaa
open Go.RowKit

/-- A chain without its values. -/
def Ch.core (h : Ch) : Item := Item.all [Item.blk h.g 122 #[h.row], Item.rowT 96 3 h.row h.ls.length (lkCells h.ls)]
theorem Ch.coreP {w : World} {h : Ch} (hp : h.item.P w) : h.core.P w :=
  ⟨fun i hi => by
    simp only [List.mem_cons, List.not_mem_nil, or_false] at hi
    rcases hi with rfl | rfl
    · exact Ch.blk hp
    · exact Ch.rowP hp, by
    have := hp.2
    unfold Ch.pieces at this
    exact List.Pairwise.sublist (List.Sublist.cons_cons _ (List.Sublist.cons_cons _ (List.nil_sublist _))) this⟩
theorem Ch.grow {W W2 : World} {h : Ch} {A' : Option Addr} {c' : Nat} {ls' : List Lk} (hc : h.core.P W)
    (t : Turn (Item.rowT 96 3 h.row h.ls.length (lkCells h.ls)) W (Item.rowT 96 3 (.slice A' ls'.length c') ls'.length (lkCells ls')) W2) :
    Turn h.core W (Ch.core ⟨h.g, A', c', ls'⟩) (W2.setCell ⟨h.g, 0, none⟩ (.slice A' ls'.length c')) := by
  have t1 := Turn.second hc t
  have hb : Blk W2 h.g 122 #[h.row] := Item.all_get t1.p (List.mem_cons_self ..)
  have t2 := Turn.head t1.p (Turn.cell hb 0 (.slice A' ls'.length c'))
  exact t1.trans t2
/-- A link may not come behind the others. -/
def AddBad (h : Ch) (l : Lk) : Prop := l.x.st < 0 ∨ 0 < h.ls.length ∧ l.x.st ≤ (lastL h.ls).x.st
/-- A link comes behind the others. -/
def AddPost (h : Ch) (l : Lk) (w : World) (e : Ending) (w' : World) : Prop :=
  AddBad h l ∧ e = .returned (.int .i64 130) ∧ Below w.heap.size w w' ∨
  ¬ AddBad h l ∧ e = .returned (.int .i64 0) ∧ ∃ A' c', Turn h.core w (Ch.core ⟨h.g, A', c', h.ls ++ [l]⟩) w'
theorem info_link : (Try.prog.info? 96).map (fun i => (i.zero, i.size, i.bytes)) = some (some (.agg #[.int .i64 0, .slice none 0 0, .bool false]), 3, 40) := by kernel_rfl
theorem one_lk (l : Lk) : ∀ u ∈ l.cells, u.oneCell' = true := by
  intro u hu
  simp only [Lk.cells, List.mem_cons, List.not_mem_nil, or_false] at hu
  rcases hu with rfl | rfl | rfl <;> rfl
set_option maxRecDepth 100000 in
set_option maxHeartbeats 3200000 in
theorem cadd_any {w : World} {h : Ch} (hp : h.item.P w) (hn : h.ls.length ≤ 1099511627775) (l : Lk) :
    Calls Try.prog 65 #[.pointer (some ⟨h.g, 0, none⟩), .agg l.cells.toArray] w (AddPost h l w) := by
  have HC := Lib.hid (Ch.coreP hp)
  have HG := Lib.hid (Ch.blk hp).lt
  have HL := Lib.hid (fun (w' : World) (hb : Below w.heap.size w w') => clast_any (w := w') (o := some h) (Item.go hp hb) (by show h.ls.length ≤ _; omega))
  have HN := Lib.hid hn
  obtain ⟨N, hN⟩ : ∃ n, n = h.ls.length := ⟨_, rfl⟩
  obtain ⟨LL, hLL⟩ : ∃ n, n = lastL h.ls := ⟨_, rfl⟩
  have HL2 : Hid (∀ w' : World, Below w.heap.size w w' → Calls Try.prog 96 #[.pointer (some ⟨h.g, 0, none⟩)] w' fun e w'' => e = .returned (.tuple #[.agg LL.cells.toArray, .bool (decide (0 < N))]) ∧ Below w'.heap.size w' w'') := Lib.hid (by rw [hN, hLL]; exact HL.out)
  have hiff : (l.x.st < 0 ∨ 0 < N ∧ l.x.st ≤ LL.x.st) = AddBad h l := by rw [hN, hLL]; rfl
  rw [← hN] at hn
  have HNN := Lib.hid hN
  clear hp HL hLL hN
  obtain ⟨⟨lst, lv, ldd⟩, lA, lc⟩ := LL
  simp only at hiff
  rw [show (Lk.cells ⟨⟨lst, lv, ldd⟩, lA, lc⟩).toArray = #[.int .i64 lst, .slice lA lv.length lc, .bool ldd] from rfl] at HL2
  have HLC := Lib.hid (show l.cells = [.int .i64 l.x.st, .slice l.A l.x.v.length l.c, .bool l.x.dead] from rfl)
  rw [show l.cells.toArray = #[.int .i64 l.x.st, .slice l.A l.x.v.length l.c, .bool l.x.dead] from rfl]
  obtain ⟨s, hs⟩ : ∃ s, s = l.x.st := ⟨_, rfl⟩
  obtain ⟨vn, hvn⟩ : ∃ s, s = l.x.v.length := ⟨_, rfl⟩
  obtain ⟨vA, hvA⟩ : ∃ s, s = l.A := ⟨_, rfl⟩
  obtain ⟨vc, hvc⟩ : ∃ s, s = l.c := ⟨_, rfl⟩
  obtain ⟨vd, hvd⟩ : ∃ s, s = l.x.dead := ⟨_, rfl⟩
  rw [← hs, ← hvn, ← hvA, ← hvc, ← hvd] at HLC ⊢
  rw [← hs] at hiff
  have HIFF := Lib.hid hiff
  clear hs hvn hvA hvc hvd hiff
  have B1 := Lib.hid ((Below.refl w.heap.size w).alloc (Nat.le_refl _) (.cells #[.int .i64 s, .slice vA vn vc, .bool vd] 96))
  have K1 := Lib.hid (Blk.new w 96 #[.int .i64 s, .slice vA vn vc, .bool vd])
  go_enter Try.func65, Try.ntmps65
  go_wp2_with fail
  obtain ⟨W, hW⟩ : ∃ W, W = w.alloc (.cells #[.int .i64 s, .slice vA vn vc, .bool vd] 96) := ⟨_, rfl⟩
  rw [← hW] at B1 K1 ⊢
  clear hW
  refine (HL2.out W B1.out).mono ?_
  rintro e w2 ⟨rfl, hb⟩
  have B2 := Lib.hid (B1.out.trans ((hb.alloc hb.size (.cells #[.int .i64 lst, .slice lA lv.length lc, .bool ldd] 96)).mono B1.out.size))
  have K2 := Lib.hid ((K1.out.below' hb).alloc (.cells #[.int .i64 lst, .slice lA lv.length lc, .bool ldd] 96))
  have K3 := Lib.hid (Blk.new w2 96 #[.int .i64 lst, .slice lA lv.length lc, .bool ldd])
  have HNE := Lib.hid (show w.heap.size < w2.heap.size from Nat.lt_of_lt_of_le (K1.out.lt) hb.size)
  clear hb HL2 B1 K1
  go_upto_region 4 with fail
  obtain ⟨W2, hW2⟩ : ∃ W2, W2 = w2.alloc (.cells #[.int .i64 lst, .slice lA lv.length lc, .bool ldd] 96) := ⟨_, rfl⟩
  obtain ⟨R, hR⟩ : ∃ R, R = w2.heap.size := ⟨_, rfl⟩
  obtain ⟨T, hT⟩ : ∃ R, R = w.heap.size := ⟨_, rfl⟩
  have HT := Lib.hid hT
  rw [← hW2] at B2 K2 K3 ⊢
  rw [← hR] at K3 HNE ⊢
  rw [← hT] at K2 HNE HG ⊢
  clear hW2 hR hT
  have k0 := K2.out.cell 0
  have k1 := K2.out.cell 1
  have k2 := K2.out.cell 2
  have r0 := K3.out.cell 0
  simp at k0 k1 k2 r0
  by_cases hbad : s < 0 ∨ 0 < N ∧ s ≤ lst
  · rcases Int.lt_or_le s 0 with h1 | h1
    · go_wp2
      go_ret
      exact Or.inl ⟨by rw [← HIFF.out]; exact hbad, rfl, B2.out⟩
    · have h2 : 0 < N ∧ s ≤ lst := by
        rcases hbad with h | h
        · omega
        · exact h
      obtain ⟨h3, h4⟩ := h2
      have d0 : decide (0 < N) = true := decide_eq_true h3
      go_wp2
      go_ret
      exact Or.inl ⟨by rw [← HIFF.out]; exact hbad, rfl, B2.out⟩
  · have h1 : 0 ≤ s := by
      rcases Int.lt_or_le s 0 with h | h
      · exact absurd (.inl h) hbad
      · exact h
    have h2 : (decide (0 < N) && decide (s ≤ lst)) = false := by
      rw [Bool.and_eq_false_iff]
      by_cases h : 0 < N
      · exact .inr (decide_eq_false fun h' => hbad (.inr ⟨h, h'⟩))
      · exact .inl (decide_eq_false h)
    have d1 : decide (s < 0) = false := decide_eq_false (by omega)
    have HBAD := Lib.hid hbad
    have hs4 : True := trivial
    clear hbad
    obtain ⟨i, hi, hz, h4, h5⟩ := info_parts info_link
    have HCW := Lib.hid (Item.go HC.out (B2.out.drew))
    have y0 : W2.drew.cell? ⟨h.g, 0, none⟩ = some (.slice h.A N h.c) := by
      have := (show Blk W2.drew h.g 122 #[h.row] from Item.all_get HCW.out (List.mem_cons_self ..)).cell 0
      rw [HNN.out]; simpa [Ch.row] using this
    have y1 : W2.drew.cell? ⟨T, 0, none⟩ = some (.int .i64 s) := k0
    have y2 : W2.drew.cell? ⟨T, 1, none⟩ = some (.slice vA vn vc) := k1
    have y3 : W2.drew.cell? ⟨T, 2, none⟩ = some (.bool vd) := k2
    obtain ⟨W3, hW3⟩ : ∃ W3, W3 = (W2.alloc (.cells #[.int .i64 s, .slice vA vn vc, .bool vd] 96)).drew := ⟨_, rfl⟩
    obtain ⟨Q, hQ⟩ : ∃ Q, Q = W2.heap.size := ⟨_, rfl⟩
    have HROW : Hid (W3.ownsRow 0 96 3 (.slice h.A N h.c) N (lkCells h.ls)) := Lib.hid (by
      have h1 : (Item.rowT 96 3 h.row h.ls.length (lkCells h.ls)).P W2.drew := Item.all_get HCW.out (by simp)
      have h2 : W2.drew.ownsRow 0 96 3 h.row h.ls.length (lkCells h.ls) := h1
      have h3 := rowT_keep (w' := W3) h2 (fun k hk => by rw [hW3]; exact Below.heap_alloc _ _ _ (rowT_lt h2 hk).2)
      unfold Ch.row at h3
      rwa [← HNN.out] at h3)
    have HNEWS : Hid (∀ j u, l.cells[j]? = some u → W3.cell? ((⟨Q, 0, none⟩ : Addr).add j) = some u) := Lib.hid (by
      rw [HLC.out, hQ, hW3]
      exact World.news_of_block (heap_alloc_new _ _))
    have HMAX := Lib.hid (show N + 1 ≤ maxLen from by unfold maxLen; omega)
    have HBY := Lib.hid (show (N + 1) * 40 ≤ 140737488355328 from by omega)
    have HEND : Hid (∀ (g cap : Nat) (w1 : World), w1.ownsRow 0 96 3 (.slice (some ⟨g, 0, none⟩) (N + 1) cap) (N + 1) (lkCells h.ls ++ l.cells) → W3.grownBy w1 (Value.slice h.A N h.c).ownBlock → ((Value.slice h.A N h.c).ownBlock = some g ∨ g = W3.heap.size) → Turn h.core w (Ch.core ⟨h.g, some ⟨g, 0, none⟩, cap, h.ls ++ [l]⟩) (w1.setCell ⟨h.g, 0, none⟩ (.slice (some ⟨g, 0, none⟩) (N + 1) cap))) := Lib.hid (fun g cap w1 hown hgrow hat => by
      have hb3 : Below w.heap.size w W3 := by
        rw [hW3]; exact (B2.out.alloc B2.out.size _).drew
      have hc3 : h.core.P W3 := Item.go HC.out hb3
      have e1 : (h.ls ++ [l]).length = N + 1 := by rw [List.length_append, HNN.out]; rfl
      have t := Turn.rowT (e := 96) (size := 3) (v := .slice h.A N h.c) (n := N) (xs := lkCells h.ls) hown hgrow (by
        rcases hat with h | h
        · exact .inl h.symm
        · exact .inr (by rw [← h]; rfl))
      rw [HNN.out] at t
      rw [← HNN.out, ← e1, ← lkCells_snoc] at t
      have t2 := Ch.grow hc3 (by rw [HNN.out] at t; exact t)
      rw [e1] at t2
      exact Turn.pre hb3 t2)
    have HX : Hid (∀ w', w' = (W2.alloc (.cells #[.int .i64 s, .slice vA vn vc, .bool vd] 96)).drew → w'.cell? ⟨h.g, 0, none⟩ = some (.slice h.A N h.c) ∧ w'.cell? ⟨T, 0, none⟩ = some (.int .i64 s) ∧ w'.cell? ⟨T, 1, none⟩ = some (.slice vA vn vc) ∧ w'.cell? ⟨T, 2, none⟩ = some (.bool vd)) := Lib.hid (fun w' e => by
      subst e
      have hz0 : h.g < W2.heap.size := by have := HG.out; have := HT.out; have := B2.out.size; omega
      have hz1 : T < W2.heap.size := K2.out.lt
      have hal : ∀ (k j : Nat), k < W2.heap.size → (W2.alloc (.cells #[.int .i64 s, .slice vA vn vc, .bool vd] 96)).drew.cell? ⟨k, j, none⟩ = W2.cell? ⟨k, j, none⟩ := fun k j hk => World.cell?_alloc_lt W2 _ ⟨k, j, none⟩ hk
      exact ⟨(hal _ _ hz0).trans y0, (hal _ _ hz1).trans k0, (hal _ _ hz1).trans k1, (hal _ _ hz1).trans k2⟩)
    have HFAR : Hid (∀ w1 : World, W3.grownBy w1 (Value.slice h.A N h.c).ownBlock → w1.cell? ⟨h.g, 0, none⟩ = some (.slice h.A N h.c) ∧ w1.cell? ⟨T, 0, none⟩ = some (.int .i64 s) ∧ w1.cell? ⟨T, 1, none⟩ = some (.slice vA vn vc) ∧ w1.cell? ⟨T, 2, none⟩ = some (.bool vd) ∧ w1.frozen? ⟨h.g, 0, none⟩ = false) := Lib.hid (fun w1 hgrow => by
      have hb3 : Below w.heap.size w W3 := by
        rw [hW3]; exact (B2.out.alloc B2.out.size _).drew
      have hc3 : h.core.P W3 := Item.go HC.out hb3
      have hg3 : Blk W3 h.g 122 #[h.row] := Item.all_get hc3 (List.mem_cons_self ..)
      have hd := (List.pairwise_cons.1 hc3.2).1 _ (List.mem_cons_self ..)
      have hne1 : some h.g ≠ (Value.slice h.A N h.c).ownBlock := fun e => hd h.g rfl (by
        show (Ch.row h).ownBlock = some h.g
        rw [e, HNN.out]; rfl)
      have hne2 : some T ≠ (Value.slice h.A N h.c).ownBlock := fun e => by
        have h1 : (Item.rowT 96 3 h.row h.ls.length (lkCells h.ls)).P w := Item.all_get HC.out (by simp)
        have := Item.lt _ h1 (k := T) (by show (Ch.row h).ownBlock = some T; rw [e, HNN.out]; rfl)
        have := HT.out; omega
      have hT3 : T < W3.heap.size := Nat.lt_of_lt_of_le K2.out.lt (by rw [hW3]; exact Nat.le_of_lt (by show _ < (W2.alloc _).heap.size; simp))
      have hx := HX.out W3 hW3
      exact ⟨(hgrow.cell_far ⟨h.g, 0, none⟩ hg3.lt hne1).trans hx.1, (hgrow.cell_far ⟨T, 0, none⟩ hT3 hne2).trans hx.2.1, (hgrow.cell_far ⟨T, 1, none⟩ hT3 hne2).trans hx.2.2.1, (hgrow.cell_far ⟨T, 2, none⟩ hT3 hne2).trans hx.2.2.2, (hgrow.frozen_far ⟨h.g, 0, none⟩ hg3.lt hne1).trans (hg3.frozen 0)⟩)
    rcases Nat.eq_zero_or_pos N with h0 | h0
    · have d0 : decide (0 < N) = false := decide_eq_false (by omega)
      clear h0
      have HW3 := Lib.hid hW3
      have HQ := Lib.hid hQ
      clear h2 hs4 hW3 hQ
      go_upto_region 6 with fail
      clear r0
      obtain ⟨x0, x1, x2, x3⟩ := HX.out _ rfl
      go_region_law ((rw [← HW3.out, ← HQ.out]; refine step_append_lies _ (by rfl) _ _ _ (by rfl) 0 96 i (.agg #[.int .i64 0, .slice none 0 0, .bool false]) 3 40 Try.underlying108 hi hz h4 h5 rfl (by decide) (.slice h.A N h.c) N (lkCells h.ls) (by rfl) HROW.out ⟨Q, 0, none⟩ 1 1 l.cells (by rfl) (by rfl) HNEWS.out (one_lk l) (by decide) HMAX.out HBY.out (Nat.zero_le _) _ rfl ?_; intro g cap w1 hown hgrow hat hlt; have TT := Lib.hid (HEND.out g cap w1 hown hgrow hat); have HGN := Lib.hid (HFAR.out w1 hgrow); have z0 := HGN.out.1; have z1 := HGN.out.2.1; have z2 := HGN.out.2.2.1; have z3 := HGN.out.2.2.2.1; have zf := HGN.out.2.2.2.2; clear hown hgrow hat hlt))
      all_goals go_wp2
      all_goals go_ret
      all_goals exact Or.inr ⟨by rw [← HIFF.out]; exact HBAD.out, rfl, _, _, TT.out⟩
    · have h3 : ¬ s ≤ lst := fun h => HBAD.out (.inr ⟨h0, h⟩)
      have d0 : decide (0 < N) = true := decide_eq_true h0
      have HW3 := Lib.hid hW3
      have HQ := Lib.hid hQ
      clear h2 hs4 hW3 hQ
      go_upto_region 6 with fail
      clear r0
      obtain ⟨x0, x1, x2, x3⟩ := HX.out _ rfl
      go_region_law ((rw [← HW3.out, ← HQ.out]; refine step_append_lies _ (by rfl) _ _ _ (by rfl) 0 96 i (.agg #[.int .i64 0, .slice none 0 0, .bool false]) 3 40 Try.underlying108 hi hz h4 h5 rfl (by decide) (.slice h.A N h.c) N (lkCells h.ls) (by rfl) HROW.out ⟨Q, 0, none⟩ 1 1 l.cells (by rfl) (by rfl) HNEWS.out (one_lk l) (by decide) HMAX.out HBY.out (Nat.zero_le _) _ rfl ?_; intro g cap w1 hown hgrow hat hlt; have TT := Lib.hid (HEND.out g cap w1 hown hgrow hat); have HGN := Lib.hid (HFAR.out w1 hgrow); have z0 := HGN.out.1; have z1 := HGN.out.2.1; have z2 := HGN.out.2.2.1; have z3 := HGN.out.2.2.2.1; have zf := HGN.out.2.2.2.2; clear hown hgrow hat hlt))
      all_goals go_wp2
      all_goals go_ret
      all_goals exact Or.inr ⟨by rw [← HIFF.out]; exact HBAD.out, rfl, _, _, TT.out⟩
end Go.Proofs.Ytoecgkdipgaaeaa
/- Stores: what holds of the pieces while Apply goes on. -/
namespace Go.Proofs.Ytoecgkdipgaaeaa
open Go.RowKit

/-- Two pieces that are one. -/
def Item.Same (x y : Item) : Prop := (∀ k, x.own k ↔ y.own k) ∧ ∀ w, x.P w ↔ y.P w
section
variable {x y a : Item} {w w' : World} {L M R : List Item}
theorem Item.Same.symm (h : x.Same y) : y.Same x := ⟨fun k => (h.1 k).symm, fun w => (h.2 w).symm⟩
theorem Item.Same.trans {z : Item} (h : x.Same y) (h' : y.Same z) : x.Same z := ⟨fun k => (h.1 k).trans (h'.1 k), fun w => (h.2 w).trans (h'.2 w)⟩
theorem Turn.sameR (h : Turn a w x w') (e : x.Same y) : Turn a w y w' := ⟨(e.2 _).1 h.p, h.k, fun k hk => h.o k ((e.1 k).2 hk)⟩
theorem Turn.sameL (h : Turn x w a w') (e : x.Same y) : Turn y w a w' := ⟨h.p, h.k.mono (fun i hi => .inl ((e.1 i).1 hi)), fun k hk => (h.o k hk).imp (e.1 k).1 id⟩
theorem same_flat : (Item.all (Item.all L :: M)).Same (Item.all (L ++ M)) := by
  refine ⟨fun k => ⟨fun ⟨i, hi, ho⟩ => ?_, fun ⟨i, hi, ho⟩ => ?_⟩, fun w => ⟨fun h => ⟨fun i hi => ?_, ?_⟩, fun h => ⟨fun i hi => ?_, ?_⟩⟩⟩
  · rcases List.mem_cons.1 hi with rfl | hi
    · obtain ⟨j, hj, hk⟩ := ho
      exact ⟨j, List.mem_append.2 (.inl hj), hk⟩
    · exact ⟨i, List.mem_append.2 (.inr hi), ho⟩
  · rcases List.mem_append.1 hi with hi | hi
    · exact ⟨_, List.mem_cons_self .., i, hi, ho⟩
    · exact ⟨i, List.mem_cons_of_mem _ hi, ho⟩
  · have hL : (Item.all L).P w := h.1 _ (List.mem_cons_self ..)
    rcases List.mem_append.1 hi with hi | hi
    · exact hL.1 i hi
    · exact h.1 i (List.mem_cons_of_mem _ hi)
  · have hL : (Item.all L).P w := h.1 _ (List.mem_cons_self ..)
    obtain ⟨h1, h2⟩ := List.pairwise_cons.1 h.2
    exact List.pairwise_append.2 ⟨hL.2, h2, fun i hi j hj k h3 h4 => h1 j hj k ⟨i, hi, h3⟩ h4⟩
  · rcases List.mem_cons.1 hi with rfl | hi
    · exact ⟨fun j hj => h.1 j (List.mem_append.2 (.inl hj)), (List.pairwise_append.1 h.2).1⟩
    · exact h.1 i (List.mem_append.2 (.inr hi))
  · obtain ⟨h1, h2, h3⟩ := List.pairwise_append.1 h.2
    exact List.pairwise_cons.2 ⟨fun j hj k ⟨i, hi, h4⟩ h5 => h3 i hi j hj k h4 h5, h2⟩
theorem same_perm (h : L.Perm M) : (Item.all L).Same (Item.all M) :=
  ⟨fun k => ⟨fun ⟨i, hi, ho⟩ => ⟨i, h.mem_iff.1 hi, ho⟩, fun ⟨i, hi, ho⟩ => ⟨i, h.mem_iff.2 hi, ho⟩⟩, fun w => ⟨fun hp => Item.all_perm hp h, fun hp => Item.all_perm hp h.symm⟩⟩
end
/-- A link's value and its chain have become one chain. -/
theorem add_pieces {w w' : World} {h h' : Ch} {l : Lk} {R : List Item} (hl : h'.ls = h.ls ++ [l]) (hp : (Item.all (l.item :: h.item :: R)).P w) (t : Turn h.core w h'.core w') :
    Turn (Item.all (l.item :: h.item :: R)) w (Item.all (h'.item :: R)) w' := by
  have e1 : (Item.all (l.item :: h.item :: R)).Same (Item.all (h.core :: (l.item :: (h.ls.map Lk.item ++ R)))) := by
    refine (same_perm (List.Perm.swap _ _ _)).trans (Item.Same.trans same_flat ?_)
    refine Item.Same.trans (same_perm ?_) (Item.Same.symm same_flat)
    show (h.pieces ++ l.item :: R).Perm ([Item.blk _ _ _, Item.rowT _ _ _ _ _] ++ l.item :: (h.ls.map Lk.item ++ R))
    unfold Ch.pieces
    refine List.Perm.cons _ (List.Perm.cons _ ?_)
    exact List.perm_middle
  have e2 : (Item.all (h'.core :: (l.item :: (h.ls.map Lk.item ++ R)))).Same (Item.all (h'.item :: R)) := by
    refine Item.Same.trans same_flat (Item.Same.trans (same_perm ?_) (Item.Same.symm same_flat))
    show ([Item.blk _ _ _, Item.rowT _ _ _ _ _] ++ l.item :: (h.ls.map Lk.item ++ R)).Perm (h'.pieces ++ R)
    unfold Ch.pieces
    rw [hl, List.map_append]
    refine List.Perm.cons _ (List.Perm.cons _ ?_)
    show (l.item :: (h.ls.map Lk.item ++ R)).Perm (h.ls.map Lk.item ++ [l.item] ++ R)
    rw [List.append_assoc]
    exact List.perm_middle.symm
  have hp' := (e1.2 w).1 hp
  exact ((Turn.head hp' t).sameL e1.symm).sameR e2
/-- What a store holds besides the chain of a key. -/
def St.rest (s : St) (k : Key) : List Item := (othersA k s.cs).map (fun p => p.2.item)
theorem St.some_perm {s : St} {k : Key} {c : Ch} (ha : Apart s.cs) (h : getA k s.cs = some c) : s.pieces.Perm (c.item :: Item.blk s.gs 118 #[.map (some s.gm), .int .i64 s.live] :: Item.map s.gm (mapA Ch.g s.cs) :: s.rest k) := by
  have h1 := (getA_perm ha h).map (fun p => p.2.item)
  unfold St.pieces St.rest
  exact ((h1.cons _).cons _).trans ((List.Perm.swap _ _ _).cons _ |>.trans (List.Perm.swap _ _ _))
theorem St.none_eq {s : St} {k : Key} (h : getA k s.cs = none) : s.pieces = Item.blk s.gs 118 #[.map (some s.gm), .int .i64 s.live] :: Item.map s.gm (mapA Ch.g s.cs) :: s.rest k := by
  unfold St.pieces St.rest
  rw [getA_none h]
theorem St.put_perm {s : St} {k : Key} {c : Ch} {lv : Int} : (St.pieces ⟨s.gs, s.gm, lv, putA k c s.cs⟩).Perm (c.item :: Item.blk s.gs 118 #[.map (some s.gm), .int .i64 lv] :: Item.map s.gm (mapA Ch.g (putA k c s.cs)) :: s.rest k) := by
  have h1 := (putA_perm k c s.cs).map (fun p => p.2.item)
  unfold St.pieces St.rest
  exact ((h1.cons _).cons _).trans ((List.Perm.swap _ _ _).cons _ |>.trans (List.Perm.swap _ _ _))
theorem same_one {x : Item} : (Item.all [x]).Same x :=
  ⟨fun k => ⟨fun ⟨i, hi, ho⟩ => by simp only [List.mem_cons, List.not_mem_nil, or_false] at hi; subst hi; exact ho, fun h => ⟨x, by simp, h⟩⟩, fun w => ⟨fun h => h.1 x (by simp), fun h => ⟨fun i hi => by simp only [List.mem_cons, List.not_mem_nil, or_false] at hi; subst hi; exact h, List.pairwise_singleton _ _⟩⟩⟩
theorem same_boxed {L : List Item} {b : Item} : (Item.all [b, Item.all L]).Same (Item.all (b :: L)) := by
  refine (same_perm (List.Perm.swap _ _ _)).trans (Item.Same.trans same_flat (same_perm ?_))
  exact (List.perm_append_comm (l₁ := L) (l₂ := [b]))
theorem same_cons {b : Item} {L M : List Item} (h : L.Perm M) : (Item.all (b :: L)).Same (Item.all (b :: M)) := same_perm (h.cons b)
theorem split_some {s : St} {k : Key} {c : Ch} {b : Item} (ha : Apart s.cs) (h : getA k s.cs = some c) : (Item.all [b, s.item]).Same (Item.all (c.item :: b :: Item.blk s.gs 118 #[.map (some s.gm), .int .i64 s.live] :: Item.map s.gm (mapA Ch.g s.cs) :: s.rest k)) :=
  same_boxed.trans ((same_cons (St.some_perm ha h)).trans (same_perm (List.Perm.swap _ _ _)))
theorem split_none {s : St} {k : Key} {b : Item} (h : getA k s.cs = none) : (Item.all [b, s.item]).Same (Item.all (b :: Item.blk s.gs 118 #[.map (some s.gm), .int .i64 s.live] :: Item.map s.gm (mapA Ch.g s.cs) :: s.rest k)) := by
  have := same_boxed (L := s.pieces) (b := b)
  have e := St.none_eq h
  rw [← e]
  exact this
theorem join_put {s : St} {k : Key} {c : Ch} {b : Item} {lv : Int} : (Item.all (c.item :: b :: Item.blk s.gs 118 #[.map (some s.gm), .int .i64 lv] :: Item.map s.gm (mapA Ch.g (putA k c s.cs)) :: s.rest k)).Same (Item.all [b, St.item ⟨s.gs, s.gm, lv, putA k c s.cs⟩]) :=
  Item.Same.symm (same_boxed.trans ((same_cons St.put_perm).trans (same_perm (List.Perm.swap _ _ _))))
theorem map_turn {w w' : World} {gm n : Nat} {m m' : List (Key × Nat)} (h : (Item.map gm m).P w) (ho : w'.ownsMap Try.prog 9 chR gm n (dS m')) (hg : w.grownBy w' (some gm)) : Turn (Item.map gm m) w (Item.map gm m') w' :=
  ⟨map_tight ho, (Keeps.of_grown hg).mono (fun i hi => .inl (by injection hi with hi)), fun k hk => .inl hk⟩
theorem bad_0 {v : Vn} (h : v.bad = 0) : 1 ≤ v.key.size ∧ v.key.size ≤ 255 ∧ v.value.length ≤ 4096 ∧ (v.dead = true → v.value.length = 0) ∧ 0 ≤ v.stamp ∧ v.stamp ≤ 4611686018427387904 := by
  unfold Vn.bad at h
  split at h
  · cases h
  · split at h
    · cases h
    · split at h
      · cases h
      · rename_i h1 h2 h3
        refine ⟨by omega, by omega, by omega, fun hd => ?_, by omega, by omega⟩
        have : ¬ 0 < v.value.length := fun hl => h2 (.inr ⟨hd, hl⟩)
        omega
def liveN (cs : List (Key × Ch)) : Nat := (cs.map fun p => weightL p.1.length p.2.ls).sum
/-- A store of so many versions at most. -/
structure St.ok (s : St) (N : Nat) : Prop where
  apart : Apart s.cs
  many : s.cs.length ≤ N
  each : ∀ p ∈ s.cs, p.1.length ≤ 255 ∧ 0 < p.2.ls.length ∧ p.2.ls.length ≤ N ∧ ∀ l ∈ p.2.ls, l.x.v.length ≤ 4096
  live : s.live = (liveN s.cs : Nat)
theorem weightL_le {k : Nat} {ls : List Lk} (hk : k ≤ 255) (h : ∀ l ∈ ls, l.x.v.length ≤ 4096) : weightL k ls ≤ 4351 := by
  unfold weightL
  split
  · omega
  · have : (lastL ls).x.v.length ≤ 4096 := by
      unfold lastL
      cases hl : ls.getLast? with
      | none => simp [Lk.none]
      | some l => exact h l (List.mem_of_getLast? hl)
    omega
theorem liveN_le {cs : List (Key × Ch)} (h : ∀ p ∈ cs, p.1.length ≤ 255 ∧ ∀ l ∈ p.2.ls, l.x.v.length ≤ 4096) : liveN cs ≤ 4351 * cs.length := by
  induction cs with
  | nil => simp [liveN]
  | cons p r ih =>
    have h1 := ih (fun q hq => h q (List.mem_cons_of_mem _ hq))
    have h2 := weightL_le (h p (List.mem_cons_self ..)).1 (h p (List.mem_cons_self ..)).2
    show weightL _ _ + liveN r ≤ _
    rw [List.length_cons]; omega
theorem liveN_get {cs : List (Key × Ch)} {k : Key} (ha : Apart cs) : liveN cs = weightL k.length (Ch.ofO (getA k cs)) + liveN (othersA k cs) := by
  cases hg : getA k cs with
  | none => rw [getA_none hg]; simp [Ch.ofO, weightL]
  | some c =>
    have := ((getA_perm ha hg).map fun p => weightL p.1.length p.2.ls).sum_nat
    unfold liveN
    rw [this]; rfl
theorem liveN_put {cs : List (Key × Ch)} {k : Key} {c : Ch} : liveN (putA k c cs) = weightL k.length c.ls + liveN (othersA k cs) := by
  have := ((putA_perm k c cs).map fun p => weightL p.1.length p.2.ls).sum_nat
  unfold liveN
  rw [this]; rfl
theorem St.ok.o {s : St} {N : Nat} (h : s.ok N) (hN : N ≤ 1099511627776) {w : World} (hp : s.item.P w) : St.okO w (some s) :=
  ⟨hp, fun p hpp => ⟨Nat.le_trans (h.each p hpp).2.2.1 hN, (h.each p hpp).2.2.2⟩⟩
theorem ok_put {s : St} {N : Nat} (h : s.ok N) {k : Key} {c : Ch} {l : Lk} {lv : Int} (hk : k.length ≤ 255) (hc : c.ls = Ch.ofO (getA k s.cs) ++ [l]) (hl : l.x.v.length ≤ 4096) (hlv : lv = (liveN (putA k c s.cs) : Nat)) : (St.mk s.gs s.gm lv (putA k c s.cs)).ok (N + 1) := by
  refine ⟨apart_put h.apart, ?_, fun p hp => ?_, hlv⟩
  · show (putA k c s.cs).length ≤ _
    rw [(putA_perm k c s.cs).length_eq, List.length_cons]
    have := List.length_filter_le (fun p : Key × Ch => !(p.1 == k)) s.cs
    have := h.many
    show (othersA k s.cs).length + 1 ≤ _
    unfold othersA
    omega
  · have hp : p ∈ putA k c s.cs := hp
    rcases List.mem_cons.1 ((putA_perm k c s.cs).mem_iff.1 hp) with rfl | hp
    · refine ⟨hk, ?_, ?_, ?_⟩
      · rw [hc]; simp
      · rw [hc, List.length_append, List.length_singleton]
        cases hg : getA k s.cs with
        | none => simp [Ch.ofO]
        | some c0 => have := (h.each _ (getA_mem hg)).2.2.1; show c0.ls.length + 1 ≤ _; simp only at this; omega
      · intro x hx
        simp only at hx
        rw [hc] at hx
        rcases List.mem_append.1 hx with hx | hx
        · cases hg : getA k s.cs with
          | none => rw [hg] at hx; cases hx
          | some c0 => rw [hg] at hx; exact (h.each _ (getA_mem hg)).2.2.2 x hx
        · simp only [List.mem_cons, List.not_mem_nil, or_false] at hx; subst hx; exact hl
    · obtain ⟨h1, h2, h3, h4⟩ := h.each p (List.mem_filter.1 hp).1
      exact ⟨h1, h2, by omega, h4⟩
end Go.Proofs.Ytoecgkdipgaaeaa
