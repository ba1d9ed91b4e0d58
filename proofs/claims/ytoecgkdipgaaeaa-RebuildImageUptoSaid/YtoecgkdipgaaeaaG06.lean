/- Contracts and plain laws that this claim leans on, laid together: TwoR, Wal4R, Solid, Sum1, Sum2, Rdr6, Rdr7, PlainF. -/
import Derived.Test.YtoecgkdipgaaeaaG03
import Derived.Test.YtoecgkdipgaaeaaG05
import Derived.Test.YtoecgkdipgaaeaaG02
import Derived.Laws.BitsAllLaws
import Derived.Deep.Cut
import Derived.Deep.LoopGhost
import Derived.Deep.RegionHeld3
set_option linter.all false
set_option linter.unusedVariables false
set_option linter.unusedSimpArgs false
set_option linter.unnecessarySimpa false
/- A region of two calls that answer entries, each stored in a box of its own: in whatever order. -/
namespace Go.Proofs.Ytoecgkdipgaaeaa
open Go.RowKit

def twoOps (f g : FuncId) (s9 s1 s2 s3 s4 d1 d2 : Nat) (ps : String) : Array Oper :=
  #[{ dst := some s1, op := .load 33 (.tmp s9), type := 33, pos := ps, after := #[], guard := none },
    { dst := some s2, op := .call { callee := .value (.func f), args := #[.tmp s1], argTypes := #[33] }, type := 31, pos := ps, after := #[{ on := 0, ground := .data }], guard := none },
    { dst := some s3, op := .load 33 (.tmp s9), type := 33, pos := ps, after := #[], guard := none },
    { dst := some s4, op := .call { callee := .value (.func g), args := #[.tmp s3], argTypes := #[33] }, type := 31, pos := ps, after := #[{ on := 2, ground := .data }, { on := 1, ground := .chain }], guard := none },
    { dst := some d1, op := .alloc 31, type := 0, pos := ps, after := #[], guard := none },
    { dst := some d2, op := .alloc 31, type := 0, pos := ps, after := #[], guard := none },
    { dst := none, op := .store 31 (.tmp d1) (.tmp s2), type := 0, pos := ps,
      after := #[{ on := 4, ground := .data }, { on := 1, ground := .data }, { on := 3, ground := .chain }, { on := 0, ground := .phase }, { on := 1, ground := .phase }, { on := 2, ground := .textOnly .lateStores }, { on := 3, ground := .textOnly .lateStoresUnsure }, { on := 4, ground := .phase }, { on := 5, ground := .phase }], guard := none },
    { dst := none, op := .store 31 (.tmp d2) (.tmp s4), type := 0, pos := ps,
      after := #[{ on := 5, ground := .data }, { on := 3, ground := .data }, { on := 6, ground := .chain }, { on := 0, ground := .phase }, { on := 1, ground := .phase }, { on := 2, ground := .phase }, { on := 3, ground := .phase }, { on := 4, ground := .phase }, { on := 5, ground := .phase }, { on := 6, ground := .phase }], guard := none }]
def zeroE : Array Value := #[.int .i64 0, .int .i64 0, .int .i64 0, .string ⟨#[]⟩, .slice none 0 0, .bool false]
/-- A call's answer: nothing yet, or the entry, its bytes a row. -/
def Ans (b : Bool) (x : En) (u : Value) (i : Item) : Prop := if b then ∃ A c, u = .agg (x.cells A c) ∧ i = Item.row (.slice A x.value.length c) x.value else i = Item.none
/-- A box: none yet, an empty one, the answer's. -/
def Box (b s : Bool) (x : En) (u ud : Value) (i : Item) : Prop :=
  if s then ∃ A c g, u = .agg (x.cells A c) ∧ ud = .pointer (some ⟨g, 0, none⟩) ∧ i = Item.blk g 31 (x.cells A c)
  else if b then ∃ g, ud = .pointer (some ⟨g, 0, none⟩) ∧ i = Item.blk g 31 zeroE else i = Item.none
structure TwoInv (a0 : Act) (w0 : World) (M : List Item) (V : Value) (x y : En) (s1 s2 s3 s4 d1 d2 : Nat) (L : Nat → Bool) (a : Act) (w : World) : Prop where
  fr : Fr [s1, s2, s3, s4, d1, d2] a0 a
  v1 : L 0 = true → a.tmps.getD s1 undef = V
  v3 : L 2 = true → a.tmps.getD s3 undef = V
  dn : (L 6 = true → L 1 = true ∧ L 4 = true) ∧ (L 7 = true → L 3 = true ∧ L 5 = true)
  it : ∃ i1 i2 j1 j2, Turn (Item.all []) w0 (Item.all (j1 :: j2 :: i1 :: i2 :: M)) w ∧ Ans (L 1) x (a.tmps.getD s2 undef) i1 ∧ Ans (L 3) y (a.tmps.getD s4 undef) i2 ∧
    Box (L 4) (L 6) x (a.tmps.getD s2 undef) (a.tmps.getD d1 undef) j1 ∧ Box (L 5) (L 7) y (a.tmps.getD s4 undef) (a.tmps.getD d2 undef) j2
theorem box_no {b t : Bool} {x : En} {u ud : Value} {i : Item} (h : t = false) : Box b t x u ud i ↔ (if b then ∃ g, ud = .pointer (some ⟨g, 0, none⟩) ∧ i = Item.blk g 31 zeroE else i = Item.none) := by
  subst h; unfold Box; rw [if_neg (by simp)]
theorem slot_ne {a : Act} {d k : Nat} {v : Value} (h : d < a.tmps.size) (hk : k ≠ d) : (a.put (some d) v).tmps.getD k undef = a.tmps.getD k undef := by rw [slot_get h, if_neg hk]
theorem slot_eq {a : Act} {d : Nat} {v : Value} (h : d < a.tmps.size) : (a.put (some d) v).tmps.getD d undef = v := by rw [slot_get h, if_pos rfl]
set_option maxRecDepth 100000 in
theorem two_step {f g : FuncId} {s9 s1 s2 s3 s4 d1 d2 : Nat} {ps : String} {a0 : Act} {w0 : World} {M : List Item} {x y : En} {g9 : Nat} {c0 c1 c2 c3 : Value} {Q : Exit → Act → World → Prop}
    (hS : [s9, s1, s2, s3, s4, d1, d2].Nodup) (hlt : ∀ s ∈ [s9, s1, s2, s3, s4, d1, d2], s < a0.tmps.size) (h9 : a0.tmps.getD s9 undef = .pointer (some ⟨g9, 0, none⟩)) (hM : Item.blk g9 33 #[c0, c1, c2, c3] ∈ M)
    (hcf : ∀ args w, (callFunc f args).run Try.prog w = .ok (.enter f args) w) (hcg : ∀ args w, (callFunc g args).run Try.prog w = .ok (.enter g args) w)
    (hf : ∀ N w, (Item.all (N ++ M)).P w → Calls Try.prog f #[.agg #[c0, c1, c2, c3]] w (GivesE w x)) (hg : ∀ N w, (Item.all (N ++ M)).P w → Calls Try.prog g #[.agg #[c0, c1, c2, c3]] w (GivesE w y)) :
    ∀ (L : Nat → Bool) (a : Act) (w : World) (i : Nat) (o : Oper), (twoOps f g s9 s1 s2 s3 s4 d1 d2 ps)[i]? = some o → L i = false → (∀ e ∈ o.after, Region.binds .any e = true → L e.on = true) → TwoInv a0 w0 M (.agg #[c0, c1, c2, c3]) x y s1 s2 s3 s4 d1 d2 L a w →
      wpOp Try.prog (twoOps f g s9 s1 s2 s3 s4 d1 d2 ps) Q i (TwoInv a0 w0 M (.agg #[c0, c1, c2, c3]) x y s1 s2 s3 s4 d1 d2 (upd L i)) a w := by
  intro L a w i o ho hL ha hI
  have hi : i < 8 := (Array.getElem?_eq_some_iff.1 ho).1
  simp only [List.nodup_cons, List.mem_cons, List.not_mem_nil, not_or, or_false, List.nodup_nil, not_false_eq_true, and_true] at hS
  obtain ⟨⟨n1, n2, n3, n4, n5, n6⟩, ⟨m2, m3, m4, m5, m6⟩, ⟨l3, l4, l5, l6⟩, ⟨k4, k5, k6⟩, ⟨q5, q6⟩, r6⟩ := hS
  have e9 : a.tmps.getD s9 undef = .pointer (some ⟨g9, 0, none⟩) := by rw [hI.fr.g s9 (by simp [n1, n2, n3, n4, n5, n6])]; exact h9
  obtain ⟨i1, i2, j1, j2, hT, hA1, hA2, hB1, hB2⟩ := hI.it
  have hb9 : Blk w g9 33 #[c0, c1, c2, c3] := Item.all_get hT.p (x := Item.blk g9 33 #[c0, c1, c2, c3]) (by simp [hM])
  have y0 := hb9.cell 0
  have y1 := hb9.cell 1
  have y2 := hb9.cell 2
  have y3 := hb9.cell 3
  simp at y0 y1 y2 y3
  have sz : ∀ s ∈ [s9, s1, s2, s3, s4, d1, d2], s < a.tmps.size := fun s hs => by rw [hI.fr.n]; exact hlt s hs
  unfold wpOp
  rw [ho]
  simp only
  rcases i with _ | _ | _ | _ | _ | _ | _ | _ | i
  · simp [twoOps] at ho
    subst ho
    rw [if_pos (by rfl)]
    refine .inl ?_
    simp [go_sem, e9, y0, y1, y2, y3]
    show TwoInv _ _ _ _ _ _ _ _ _ _ _ _ (upd L 0) (a.put (some s1) (.agg #[c0, c1, c2, c3])) w
    have hz : s1 < a.tmps.size := sz _ (by simp)
    refine ⟨hI.fr.put (by simp) _, fun h => ?_, fun h => ?_, hI.dn, i1, i2, j1, j2, hT, ?_, ?_, ?_, ?_⟩
    · rw [slot_eq hz]
    · rw [slot_ne hz (Ne.symm m3)]; exact hI.v3 h
    · rw [slot_ne hz (Ne.symm m2)]; exact hA1
    · rw [slot_ne hz (Ne.symm m4)]; exact hA2
    · rw [slot_ne hz (Ne.symm m2), slot_ne hz (Ne.symm m5)]; exact hB1
    · rw [slot_ne hz (Ne.symm m4), slot_ne hz (Ne.symm m6)]; exact hB2
  · simp [twoOps] at ho
    subst ho
    rw [if_pos (by rfl)]
    refine .inl ?_
    have hv : a.tmps.getD s1 undef = .agg #[c0, c1, c2, c3] := hI.v1 (ha ⟨0, .data⟩ (by simp) rfl)
    have hv' : a.tmps[s1]?.getD undef = .agg #[c0, c1, c2, c3] := by rw [← Array.getD_eq_getD_getElem?]; exact hv
    have hz : s2 < a.tmps.size := sz _ (by simp)
    have hLb : L 6 = false := by
      cases hq : L 6 with
      | false => rfl
      | true => have := (hI.dn.1 hq).1; rw [hL] at this; cases this
    simp only [go_sem, hcf, Oper.upon_enter]
    rw [show (#[] ++ Array.map a.eval #[Operand.tmp s1] ++ #[]) = #[.agg #[c0, c1, c2, c3]] from by simp [Act.eval, hv']]
    refine (hf [j1, j2, i1, i2] w hT.p).mono ?_
    rintro e w' ⟨A, c, rfl, ho, hb⟩
    show TwoInv _ _ _ _ _ _ _ _ _ _ _ _ (upd L 1) (a.put (some s2) (.agg (x.cells A c))) w'
    unfold Ans at hA1
    rw [hL, if_neg (by simp)] at hA1
    subst hA1
    have hT2 := hT.step (i := 2) rfl (Turn.ofNone (y := Item.row (.slice A x.value.length c) x.value) hb (owns_less ho (Nat.zero_le _)) (fun k hk => (ho.lt hk).1))
    refine ⟨hI.fr.put (by simp) _, fun h => ?_, fun h => ?_, ⟨fun h => ?_, fun h => ?_⟩, _, _, _, _, hT2, ?_, ?_, ?_, ?_⟩
    · rw [slot_ne hz m2]; exact hI.v1 h
    · rw [slot_ne hz (Ne.symm l3)]; exact hI.v3 h
    · have : L 6 = true := h; rw [hLb] at this; cases this
    · exact hI.dn.2 h
    · unfold Ans; exact ⟨A, c, by rw [slot_eq hz], rfl⟩
    · rw [slot_ne hz (Ne.symm l4)]; exact hA2
    · rw [slot_ne hz (Ne.symm l5)]; exact (box_no (show upd L 1 6 = false from hLb)).2 ((box_no hLb).1 hB1)
    · rw [slot_ne hz (Ne.symm l4), slot_ne hz (Ne.symm l6)]; exact hB2
  · simp [twoOps] at ho
    subst ho
    rw [if_pos (by rfl)]
    refine .inl ?_
    simp [go_sem, e9, y0, y1, y2, y3]
    show TwoInv _ _ _ _ _ _ _ _ _ _ _ _ (upd L 2) (a.put (some s3) (.agg #[c0, c1, c2, c3])) w
    have hz : s3 < a.tmps.size := sz _ (by simp)
    refine ⟨hI.fr.put (by simp) _, fun h => ?_, fun h => ?_, hI.dn, i1, i2, j1, j2, hT, ?_, ?_, ?_, ?_⟩
    · rw [slot_ne hz m3]; exact hI.v1 h
    · rw [slot_eq hz]
    · rw [slot_ne hz l3]; exact hA1
    · rw [slot_ne hz (Ne.symm k4)]; exact hA2
    · rw [slot_ne hz l3, slot_ne hz (Ne.symm k5)]; exact hB1
    · rw [slot_ne hz (Ne.symm k4), slot_ne hz (Ne.symm k6)]; exact hB2
  · simp [twoOps] at ho
    subst ho
    rw [if_pos (by rfl)]
    refine .inl ?_
    have hv : a.tmps.getD s3 undef = .agg #[c0, c1, c2, c3] := hI.v3 (ha ⟨2, .data⟩ (by simp) rfl)
    have hv' : a.tmps[s3]?.getD undef = .agg #[c0, c1, c2, c3] := by rw [← Array.getD_eq_getD_getElem?]; exact hv
    have hz : s4 < a.tmps.size := sz _ (by simp)
    have hLb : L 7 = false := by
      cases hq : L 7 with
      | false => rfl
      | true => have := (hI.dn.2 hq).1; rw [hL] at this; cases this
    simp only [go_sem, hcg, Oper.upon_enter]
    rw [show (#[] ++ Array.map a.eval #[Operand.tmp s3] ++ #[]) = #[.agg #[c0, c1, c2, c3]] from by simp [Act.eval, hv']]
    refine (hg [j1, j2, i1, i2] w hT.p).mono ?_
    rintro e w' ⟨A, c, rfl, ho, hb⟩
    show TwoInv _ _ _ _ _ _ _ _ _ _ _ _ (upd L 3) (a.put (some s4) (.agg (y.cells A c))) w'
    unfold Ans at hA2
    rw [hL, if_neg (by simp)] at hA2
    subst hA2
    have hT2 := hT.step (i := 3) rfl (Turn.ofNone (y := Item.row (.slice A y.value.length c) y.value) hb (owns_less ho (Nat.zero_le _)) (fun k hk => (ho.lt hk).1))
    refine ⟨hI.fr.put (by simp) _, fun h => ?_, fun h => ?_, ⟨fun h => ?_, fun h => ?_⟩, _, _, _, _, hT2, ?_, ?_, ?_, ?_⟩
    · rw [slot_ne hz m4]; exact hI.v1 h
    · rw [slot_ne hz k4]; exact hI.v3 h
    · exact hI.dn.1 h
    · have : L 7 = true := h; rw [hLb] at this; cases this
    · rw [slot_ne hz l4]; exact hA1
    · unfold Ans; exact ⟨A, c, by rw [slot_eq hz], rfl⟩
    · rw [slot_ne hz l4, slot_ne hz (Ne.symm q5)]; exact hB1
    · rw [slot_ne hz (Ne.symm q6)]; exact (box_no (show upd L 3 7 = false from hLb)).2 ((box_no hLb).1 hB2)
  · simp [twoOps] at ho
    subst ho
    rw [if_pos (by rfl)]
    refine .inl ?_
    have hz : d1 < a.tmps.size := sz _ (by simp)
    have hLb : L 6 = false := by
      cases hq : L 6 with
      | false => rfl
      | true => have := (hI.dn.1 hq).2; rw [hL] at this; cases this
    simp [go_sem]
    show TwoInv _ _ _ _ _ _ _ _ _ _ _ _ (upd L 4) (a.put (some d1) (.pointer (some ⟨w.heap.size, 0, none⟩))) (w.alloc (.cells zeroE 31))
    unfold Box at hB1
    rw [hLb, hL, if_neg (by simp), if_neg (by simp)] at hB1
    subst hB1
    have hT2 := hT.step (i := 0) rfl (Turn.ofNone (y := Item.blk w.heap.size 31 zeroE) ((Below.refl _ _).alloc (Nat.le_refl _) (.cells zeroE 31)) (Blk.new w 31 zeroE) (fun k hk => by cases hk; exact Nat.le_refl _))
    refine ⟨hI.fr.put (by simp) _, fun h => ?_, fun h => ?_, ⟨fun h => ?_, fun h => ?_⟩, _, _, _, _, hT2, ?_, ?_, ?_, ?_⟩
    · rw [slot_ne hz m5]; exact hI.v1 h
    · rw [slot_ne hz k5]; exact hI.v3 h
    · have : L 6 = true := h; rw [hLb] at this; cases this
    · exact hI.dn.2 h
    · rw [slot_ne hz l5]; exact hA1
    · rw [slot_ne hz q5]; exact hA2
    · refine (box_no (show upd L 4 6 = false from hLb)).2 ?_; rw [if_pos (show upd L 4 4 = true from rfl)]; exact ⟨_, slot_eq hz, rfl⟩
    · rw [slot_ne hz q5, slot_ne hz (Ne.symm r6)]; exact hB2
  · simp [twoOps] at ho
    subst ho
    rw [if_pos (by rfl)]
    refine .inl ?_
    have hz : d2 < a.tmps.size := sz _ (by simp)
    have hLb : L 7 = false := by
      cases hq : L 7 with
      | false => rfl
      | true => have := (hI.dn.2 hq).2; rw [hL] at this; cases this
    simp [go_sem]
    show TwoInv _ _ _ _ _ _ _ _ _ _ _ _ (upd L 5) (a.put (some d2) (.pointer (some ⟨w.heap.size, 0, none⟩))) (w.alloc (.cells zeroE 31))
    unfold Box at hB2
    rw [hLb, hL, if_neg (by simp), if_neg (by simp)] at hB2
    subst hB2
    have hT2 := hT.step (i := 1) rfl (Turn.ofNone (y := Item.blk w.heap.size 31 zeroE) ((Below.refl _ _).alloc (Nat.le_refl _) (.cells zeroE 31)) (Blk.new w 31 zeroE) (fun k hk => by cases hk; exact Nat.le_refl _))
    refine ⟨hI.fr.put (by simp) _, fun h => ?_, fun h => ?_, ⟨fun h => ?_, fun h => ?_⟩, _, _, _, _, hT2, ?_, ?_, ?_, ?_⟩
    · rw [slot_ne hz m6]; exact hI.v1 h
    · rw [slot_ne hz k6]; exact hI.v3 h
    · exact hI.dn.1 h
    · have : L 7 = true := h; rw [hLb] at this; cases this
    · rw [slot_ne hz l6]; exact hA1
    · rw [slot_ne hz q6]; exact hA2
    · rw [slot_ne hz l6, slot_ne hz r6]; exact hB1
    · refine (box_no (show upd L 5 7 = false from hLb)).2 ?_; rw [if_pos (show upd L 5 5 = true from rfl)]; exact ⟨_, slot_eq hz, rfl⟩
  · simp [twoOps] at ho
    subst ho
    rw [if_pos (by rfl)]
    refine .inl ?_
    have hLa : L 1 = true := ha ⟨1, .data⟩ (by simp) rfl
    have hLc : L 4 = true := ha ⟨4, .data⟩ (by simp) rfl
    have hA0 := hA1
    unfold Ans at hA0
    rw [hLa, if_pos rfl] at hA0
    obtain ⟨A, c, hu, _⟩ := hA0
    unfold Box at hB1
    rw [hL, hLc, if_neg (by simp), if_pos rfl] at hB1
    obtain ⟨g, hud, rfl⟩ := hB1
    have hK : Blk w g 31 zeroE := hT.get (i := 0) rfl
    obtain ⟨k, s, n, key, p, d⟩ := x
    have hu' : a.tmps[s2]?.getD undef = .agg #[.int .i64 k, .int .i64 s, .int .i64 n, .string key, .slice A p.length c, .bool d] := by rw [← Array.getD_eq_getD_getElem?]; exact hu
    have hud' : a.tmps[d1]?.getD undef = .pointer (some ⟨g, 0, none⟩) := by rw [← Array.getD_eq_getD_getElem?]; exact hud
    have z0 := hK.cell 0
    have z1 := hK.cell 1
    have z2 := hK.cell 2
    have z3 := hK.cell 3
    have z4 := hK.cell 4
    have z5 := hK.cell 5
    have f0 := hK.frozen 0
    have f1 := hK.frozen 1
    have f2 := hK.frozen 2
    have f3 := hK.frozen 3
    have f4 := hK.frozen 4
    have f5 := hK.frozen 5
    simp [zeroE] at z0 z1 z2 z3 z4 z5
    simp [go_sem, hu', hud', z0, z1, z2, z3, z4, z5, f0, f1, f2, f3, f4, f5]
    show TwoInv a0 w0 M _ ⟨k, s, n, key, p, d⟩ y s1 s2 s3 s4 d1 d2 (upd L 6) a (set6 w g (.int .i64 k) (.int .i64 s) (.int .i64 n) (.string key) (.slice A p.length c) (.bool d))
    have hT2 := hT.step (i := 0) rfl (y := Item.blk g 31 (En.cells ⟨k, s, n, key, p, d⟩ A c)) ⟨Blk.put6 hK (.int .i64 k) (.int .i64 s) (.int .i64 n) (.string key) (.slice A p.length c) (.bool d), keeps_set6 _ _ _ _ _ _ _ _, fun k hk => .inl hk⟩
    refine ⟨hI.fr, hI.v1, hI.v3, ⟨fun h => ⟨hLa, hLc⟩, fun h => hI.dn.2 h⟩, _, _, _, _, hT2, hA1, hA2, ?_, ?_⟩
    · unfold Box; rw [if_pos (show upd L 6 6 = true from rfl)]; exact ⟨A, c, g, hu, hud, rfl⟩
    · exact hB2
  · simp [twoOps] at ho
    subst ho
    rw [if_pos (by rfl)]
    refine .inl ?_
    have hLa : L 3 = true := ha ⟨3, .data⟩ (by simp) rfl
    have hLc : L 5 = true := ha ⟨5, .data⟩ (by simp) rfl
    have hA0 := hA2
    unfold Ans at hA0
    rw [hLa, if_pos rfl] at hA0
    obtain ⟨A, c, hu, _⟩ := hA0
    unfold Box at hB2
    rw [hL, hLc, if_neg (by simp), if_pos rfl] at hB2
    obtain ⟨g, hud, rfl⟩ := hB2
    have hK : Blk w g 31 zeroE := hT.get (i := 1) rfl
    obtain ⟨k, s, n, key, p, d⟩ := y
    have hu' : a.tmps[s4]?.getD undef = .agg #[.int .i64 k, .int .i64 s, .int .i64 n, .string key, .slice A p.length c, .bool d] := by rw [← Array.getD_eq_getD_getElem?]; exact hu
    have hud' : a.tmps[d2]?.getD undef = .pointer (some ⟨g, 0, none⟩) := by rw [← Array.getD_eq_getD_getElem?]; exact hud
    have z0 := hK.cell 0
    have z1 := hK.cell 1
    have z2 := hK.cell 2
    have z3 := hK.cell 3
    have z4 := hK.cell 4
    have z5 := hK.cell 5
    have f0 := hK.frozen 0
    have f1 := hK.frozen 1
    have f2 := hK.frozen 2
    have f3 := hK.frozen 3
    have f4 := hK.frozen 4
    have f5 := hK.frozen 5
    simp [zeroE] at z0 z1 z2 z3 z4 z5
    simp [go_sem, hu', hud', z0, z1, z2, z3, z4, z5, f0, f1, f2, f3, f4, f5]
    show TwoInv a0 w0 M _ x ⟨k, s, n, key, p, d⟩ s1 s2 s3 s4 d1 d2 (upd L 7) a (set6 w g (.int .i64 k) (.int .i64 s) (.int .i64 n) (.string key) (.slice A p.length c) (.bool d))
    have hT2 := hT.step (i := 1) rfl (y := Item.blk g 31 (En.cells ⟨k, s, n, key, p, d⟩ A c)) ⟨Blk.put6 hK (.int .i64 k) (.int .i64 s) (.int .i64 n) (.string key) (.slice A p.length c) (.bool d), keeps_set6 _ _ _ _ _ _ _ _, fun k hk => .inl hk⟩
    refine ⟨hI.fr, hI.v1, hI.v3, ⟨fun h => hI.dn.1 h, fun h => ⟨hLa, hLc⟩⟩, _, _, _, _, hT2, hA1, hA2, ?_, ?_⟩
    · exact hB1
    · unfold Box; rw [if_pos (show upd L 7 7 = true from rfl)]; exact ⟨A, c, g, hu, hud, rfl⟩
  · omega
theorem two_region {id : Nat} {f g : FuncId} {s9 s1 s2 s3 s4 d1 d2 : Nat} {ps : String} {a0 : Act} {w0 w : World} {M : List Item} (x y : En) {g9 : Nat} {c0 c1 c2 c3 : Value} {Q : Exit → Act → World → Prop}
    (hS : [s9, s1, s2, s3, s4, d1, d2].Nodup) (hlt : ∀ s ∈ [s9, s1, s2, s3, s4, d1, d2], s < a0.tmps.size) (h9 : a0.tmps.getD s9 undef = .pointer (some ⟨g9, 0, none⟩)) (hM : Item.blk g9 33 #[c0, c1, c2, c3] ∈ M)
    (hcf : ∀ args w, (callFunc f args).run Try.prog w = .ok (.enter f args) w) (hcg : ∀ args w, (callFunc g args).run Try.prog w = .ok (.enter g args) w)
    (hf : ∀ N w, (Item.all (N ++ M)).P w → Calls Try.prog f #[.agg #[c0, c1, c2, c3]] w (GivesE w x)) (hg : ∀ N w, (Item.all (N ++ M)).P w → Calls Try.prog g #[.agg #[c0, c1, c2, c3]] w (GivesE w y))
    (hT : Turn (Item.all []) w0 (Item.all M) w)
    (hk : ∀ (a : Act) (w' : World) (A A' : Option Addr) (c c' g g' : Nat) (u1 u2 u3 u4 : Value), a = ⟨((((((a0.tmps.setIfInBounds s1 u1).setIfInBounds s2 u2).setIfInBounds s3 u3).setIfInBounds s4 u4).setIfInBounds d1 (.pointer (some ⟨g, 0, none⟩))).setIfInBounds d2 (.pointer (some ⟨g', 0, none⟩))), a0.defers⟩ →
      Turn (Item.all []) w0 (Item.all (Item.blk g 31 (x.cells A c) :: Item.blk g' 31 (y.cells A' c') :: Item.row (.slice A x.value.length c) x.value :: Item.row (.slice A' y.value.length c') y.value :: M)) w' → Q .normal a w') :
    (Code.region id (twoOps f g s9 s1 s2 s3 s4 d1 d2 ps) true).wp Try.prog Q a0 w := by
  refine region_inv (TwoInv a0 w0 M (.agg #[c0, c1, c2, c3]) x y s1 s2 s3 s4 d1 d2) (by kernel_rfl) (by simp [lexB, twoOps, List.range_succ]) ?_ (two_step hS hlt h9 hM hcf hcg hf hg) ?_
  · have hT' : Turn (Item.all []) w0 (Item.all M) w.drew := hT.go (Below.refl _ _).drew
    exact { fr := Fr.refl _ _, v1 := fun h => (by cases h), v3 := fun h => (by cases h), dn := ⟨fun h => (by cases h), fun h => (by cases h)⟩, it := ⟨_, _, _, _, hT'.nones.nones.nones.nones, rfl, rfl, rfl, rfl⟩ }
  · intro L a w' hL hI
    have h1 := hL 1 (by simp [twoOps])
    have h3 := hL 3 (by simp [twoOps])
    have h6 := hL 6 (by simp [twoOps])
    have h7 := hL 7 (by simp [twoOps])
    obtain ⟨i1, i2, j1, j2, hT, hA1, hA2, hB1, hB2⟩ := hI.it
    unfold Ans at hA1 hA2
    unfold Box at hB1 hB2
    rw [h1, if_pos rfl] at hA1
    rw [h3, if_pos rfl] at hA2
    rw [h6, if_pos rfl] at hB1
    rw [h7, if_pos rfl] at hB2
    obtain ⟨A, c, e1, rfl⟩ := hA1
    obtain ⟨A2, c2, e2, rfl⟩ := hA2
    obtain ⟨A3, c3, g3, e3, e4, rfl⟩ := hB1
    obtain ⟨A4, c4, g4, e5, e6, rfl⟩ := hB2
    obtain ⟨k, s, n, key, p, d⟩ := x
    obtain ⟨k', s', n', key', p', d'⟩ := y
    have e7 := e1.symm.trans e3
    simp only [En.cells, Value.agg.injEq, Array.mk.injEq, List.cons.injEq, Value.slice.injEq, true_and, and_true] at e7
    obtain ⟨rfl, rfl⟩ := e7
    have e8 := e2.symm.trans e5
    simp only [En.cells, Value.agg.injEq, Array.mk.injEq, List.cons.injEq, Value.slice.injEq, true_and, and_true] at e8
    obtain ⟨rfl, rfl⟩ := e8
    have hl := hI.fr.lit
    simp only [List.foldl_cons, List.foldl_nil, e4, e6] at hl
    exact hk a w' _ _ _ _ _ _ _ _ _ _ hl hT
end Go.Proofs.Ytoecgkdipgaaeaa
/- Log.Entries: the region of a round that adds an entry and its end: in whatever order. -/
namespace Go.Proofs.Ytoecgkdipgaaeaa
open Go.RowKit

def entsSlots : List Nat := [50, 51, 52, 53, 54, 55, 56, 57, 58, 59]
theorem fresh_src {w : World} {g size : Nat} {e T : TypeId} {cs : Array Value} (h : Blk w g e cs) (ht : Try.prog.underlying T = some (.slice e)) (h1 : cs.toList.all (fun u => u.oneCell') = true) (h2 : 0 < size) (hs : cs.size = size) : Src Try.prog size T (.slice (some ⟨g, 0, none⟩) 1 1) 1 cs.toList w :=
  Reads.src (B := w.heap.size) (A := some ⟨g, 0, none⟩) ⟨by rw [Array.length_toList]; omega, fun _ => ⟨g, 0, rfl, h.lt, fun j u hu => by
    rw [Nat.zero_add]
    have := h.cell j
    rw [this, ← hu, Array.getElem?_toList]⟩⟩ ht 1 (fun u hu => List.all_eq_true.1 h1 u hu)
theorem upd_of {L : Nat → Bool} {i j : Nat} (h : L j = true) : upd L i j = true := by unfold upd; split <;> simp [h]
/-- A fresh slice of one element, or none yet. -/
def Fresh (b : Bool) (e : TypeId) (cs : Array Value) (u : Value) (i : Item) : Prop := if b then ∃ g, u = .slice (some ⟨g, 0, none⟩) 1 1 ∧ i = Item.blk g e cs else i = Item.none
/-- A row before and behind its append; its box before and behind its store. -/
structure RowSt (ap st : Bool) (g : Nat) (T e : TypeId) (size : Nat) (v u : Value) (n : Nat) (xs cs : List Value) (bx rw : Item) : Prop where
  r : if ap then rw = Item.rowT e size u (n + 1) (xs ++ cs) else rw = Item.rowT e size v n xs
  b : if st then bx = Item.blk g T #[u] else bx = Item.blk g T #[v]
theorem Turn.sub {x : Item} {w w' : World} {L M : List Item} (h : Turn x w (Item.all L) w') (hs : M.Sublist L) : Turn x w (Item.all M) w' :=
  ⟨⟨fun i hi => h.p.1 i (hs.subset hi), h.p.2.sublist hs⟩, h.k, fun k ⟨i, hi, hk⟩ => h.o k ⟨i, hs.subset hi, hk⟩⟩
end Go.Proofs.Ytoecgkdipgaaeaa
/- Pieces whose blocks are all cells: they stay when a range over a function writes its own records. -/
namespace Go.Proofs.Ytoecgkdipgaaeaa
open Go.RowKit

def Item.solid (x : Item) : Prop := ∀ W k, x.P W → x.own k → ∃ o : Obj, W.heap[k]? = some o ∧ o.isCells = true
theorem solid_blk {g : Nat} {t : TypeId} {cs : Array Value} : (Item.blk g t cs).solid := fun W k h e => by
  cases e
  have h' : Blk W g t cs := h
  exact ⟨_, h', rfl⟩
theorem solid_row {v : Value} {l : List UInt8} : (Item.row v l).solid := fun W k h e => by
  have h' : BOwns W 0 v l := h
  have e' : v.ownBlock = some k := e
  rcases h'.2 with ⟨h2, _⟩ | ⟨g, cap, cur, hv, hg, hh, r⟩
  · rw [h2] at e'; cases e'
  · rw [hv] at e'; injection e' with e'; subst e'; exact ⟨_, hh, rfl⟩
theorem solid_rowT {e : TypeId} {size n : Nat} {v : Value} {xs : List Value} : (Item.rowT e size v n xs).solid := fun W k h e' => by
  have h' : W.ownsRow 0 e size v n xs := h
  have e' : v.ownBlock = some k := e'
  rcases h'.2 with ⟨h2, _⟩ | ⟨g, cap, cur, hv, hg, hh, r⟩
  · rw [h2] at e'; cases e'
  · rw [hv] at e'; injection e' with e'; subst e'; exact ⟨_, hh, rfl⟩
theorem solid_none : Item.none.solid := fun _ _ _ h => h.elim
theorem solid_all {L : List Item} (h : ∀ i ∈ L, i.solid) : (Item.all L).solid := fun W k hp ⟨i, hi, ho⟩ => h i hi W k (hp.1 i hi) ho
theorem Turn.kept {w0 W W' : World} {x0 x : Item} {row : Option Nat} (h : Turn x0 w0 x W) (hs : x.solid) (hg : W.grownBy W' row) (hr : ∀ r, row = some r → w0.heap.size ≤ r ∧ ∃ o : Obj, W.heap[r]? = some o ∧ o.isCells = false) : Turn x0 w0 x W' := by
  have hk := Keeps.of_grown hg
  refine ⟨Item.far h.p hk fun k ho e => ?_, h.k.trans hk (fun i hi => ?_), h.o⟩
  · obtain ⟨_, o, h1, h2⟩ := hr k e.symm
    obtain ⟨o', h3, h4⟩ := hs _ k h.p ho
    rw [h1] at h3; injection h3 with h3; subst h3; rw [h2] at h4; cases h4
  · exact .inr (hr i hi.symm).1
theorem Turn.keepsFrom {W W' : World} {x y : Item} {B : Nat} (h : Turn x W y W') (hp : x.P W) (hs : x.solid) : KeepsFrom B W W' := by
  refine ⟨h.k.size, fun k o _ hk ho => ?_⟩
  have hlt : k < W.heap.size := (Array.getElem?_eq_some_iff.1 hk).1
  by_cases hx : x.own k
  · obtain ⟨o', h3, h4⟩ := hs _ k hp hx
    rw [hk] at h3; injection h3 with h3; subst h3; rw [ho] at h4; cases h4
  · exact (h.k.block k hlt hx).trans hk
end Go.Proofs.Ytoecgkdipgaaeaa
/- The sum of bytes, by contract: steps, More, Of. -/
namespace Go.Proofs.Ytoecgkdipgaaeaa
open Go.RowKit

/-- One step of the register, and so many of them. -/
def stepF (r : Nat) : Nat := if r % 2 = 1 then (r / 2) ^^^ 3988292384 else r / 2
def stepsF : Nat → Nat → Nat
  | 0, r => r
  | m + 1, r => stepF (stepsF m r)
theorem stepF_lt {r : Nat} (h : r < 4294967296) : stepF r < 4294967296 := by
  unfold stepF
  split
  · exact Nat.xor_lt_two_pow (n := 32) (by omega) (by omega)
  · omega
theorem stepsF_lt {r : Nat} (h : r < 4294967296) (m : Nat) : stepsF m r < 4294967296 := by
  induction m with
  | zero => exact h
  | succ m ih => exact stepF_lt ih
def tabF (i : Nat) : Nat := stepsF 4 i
/-- The table, filled up to a place. -/
def tabV (K : Nat) : Array Value := ((List.range 16).map fun j => Value.int .u32 ((if j < K then tabF j else 0 : Nat) : Int)).toArray
theorem tabV_zero : tabV 0 = #[.int .u32 0, .int .u32 0, .int .u32 0, .int .u32 0, .int .u32 0, .int .u32 0, .int .u32 0, .int .u32 0, .int .u32 0, .int .u32 0, .int .u32 0, .int .u32 0, .int .u32 0, .int .u32 0, .int .u32 0, .int .u32 0] := rfl
theorem tabN : (List.range 16).map tabF = [0, 498536548, 997073096, 651767980, 1994146192, 1802195444, 1303535960, 1342533948, 3988292384, 4027552580, 3604390888, 3412177804, 2607071920, 2262029012, 2685067896, 3183342108] := by decide +kernel
theorem tabV_full : tabV 16 = #[.int .u32 0, .int .u32 498536548, .int .u32 997073096, .int .u32 651767980, .int .u32 1994146192, .int .u32 1802195444, .int .u32 1303535960, .int .u32 1342533948, .int .u32 3988292384, .int .u32 4027552580, .int .u32 3604390888, .int .u32 3412177804, .int .u32 2607071920, .int .u32 2262029012, .int .u32 2685067896, .int .u32 3183342108] := by
  have h : tabV 16 = (((List.range 16).map tabF).map fun n : Nat => Value.int .u32 (n : Int)).toArray := by
    unfold tabV
    rw [List.map_map]
    refine congrArg List.toArray (List.map_congr_left fun j hj => ?_)
    rw [List.mem_range] at hj
    simp only [Function.comp, if_pos hj]
  rw [h, tabN]; rfl
theorem tabV_set {K : Nat} (h : K < 16) : (tabV K).setIfInBounds K (.int .u32 ((tabF K : Nat) : Int)) = tabV (K + 1) := by
  apply Array.ext'
  unfold tabV
  rw [Array.toList_setIfInBounds]
  apply List.ext_getElem
  · simp
  · intro i h1 h2
    simp only [List.getElem_set, List.getElem_map, List.getElem_range]
    by_cases e : K = i
    · subst e; rw [if_pos rfl, if_pos (by omega)]
    · rw [if_neg e]
      by_cases e2 : i < K
      · rw [if_pos e2, if_pos (by omega)]
      · rw [if_neg e2, if_neg (by omega)]
theorem and1_u32 (r : Nat) (h : r < 4294967296) : bits .and .u32 (r : Int) 1 = ((r % 2 : Nat) : Int) := by
  rw [show (1 : Int) = ((1 : Nat) : Int) from rfl, u32_and_nat _ _ h (by omega), nat_mask1]
theorem xor_poly (r : Nat) (h : r < 4294967296) : bits .xor .u32 (r : Int) 3988292384 = ((r ^^^ 3988292384 : Nat) : Int) := by
  rw [show (3988292384 : Int) = ((3988292384 : Nat) : Int) from rfl, u32_xor_nat _ _ h (by omega)]
set_option maxRecDepth 100000 in
set_option maxHeartbeats 1600000 in
theorem steps_any {w : World} : Calls Try.prog 141 #[] w fun e w' => e = .returned (.agg (tabV 16)) ∧ Below w.heap.size w w' := by
  have K1 := Lib.hid (Blk.new (w.alloc (.cells #[.int .u32 0, .int .u32 0, .int .u32 0, .int .u32 0, .int .u32 0, .int .u32 0, .int .u32 0, .int .u32 0, .int .u32 0, .int .u32 0, .int .u32 0, .int .u32 0, .int .u32 0, .int .u32 0, .int .u32 0, .int .u32 0] 202)) 202 #[.int .u32 0, .int .u32 0, .int .u32 0, .int .u32 0, .int .u32 0, .int .u32 0, .int .u32 0, .int .u32 0, .int .u32 0, .int .u32 0, .int .u32 0, .int .u32 0, .int .u32 0, .int .u32 0, .int .u32 0, .int .u32 0])
  have K0 := Lib.hid ((Blk.new w 202 #[.int .u32 0, .int .u32 0, .int .u32 0, .int .u32 0, .int .u32 0, .int .u32 0, .int .u32 0, .int .u32 0, .int .u32 0, .int .u32 0, .int .u32 0, .int .u32 0, .int .u32 0, .int .u32 0, .int .u32 0, .int .u32 0]).alloc (.cells #[.int .u32 0, .int .u32 0, .int .u32 0, .int .u32 0, .int .u32 0, .int .u32 0, .int .u32 0, .int .u32 0, .int .u32 0, .int .u32 0, .int .u32 0, .int .u32 0, .int .u32 0, .int .u32 0, .int .u32 0, .int .u32 0] 202))
  have B1 := Lib.hid (((Below.refl w.heap.size w).alloc (Nat.le_refl _) (.cells #[.int .u32 0, .int .u32 0, .int .u32 0, .int .u32 0, .int .u32 0, .int .u32 0, .int .u32 0, .int .u32 0, .int .u32 0, .int .u32 0, .int .u32 0, .int .u32 0, .int .u32 0, .int .u32 0, .int .u32 0, .int .u32 0] 202)).alloc (by simp) (.cells #[.int .u32 0, .int .u32 0, .int .u32 0, .int .u32 0, .int .u32 0, .int .u32 0, .int .u32 0, .int .u32 0, .int .u32 0, .int .u32 0, .int .u32 0, .int .u32 0, .int .u32 0, .int .u32 0, .int .u32 0, .int .u32 0] 202))
  go_enter Try.func141, Try.ntmps141
  go_upto_region 2 with fail
  obtain ⟨W, hW⟩ : ∃ x, x = (w.alloc (.cells #[.int .u32 0, .int .u32 0, .int .u32 0, .int .u32 0, .int .u32 0, .int .u32 0, .int .u32 0, .int .u32 0, .int .u32 0, .int .u32 0, .int .u32 0, .int .u32 0, .int .u32 0, .int .u32 0, .int .u32 0, .int .u32 0] 202)).alloc (.cells #[.int .u32 0, .int .u32 0, .int .u32 0, .int .u32 0, .int .u32 0, .int .u32 0, .int .u32 0, .int .u32 0, .int .u32 0, .int .u32 0, .int .u32 0, .int .u32 0, .int .u32 0, .int .u32 0, .int .u32 0, .int .u32 0] 202) := ⟨_, rfl⟩
  obtain ⟨g, hg⟩ : ∃ x, x = w.heap.size + 1 := ⟨_, rfl⟩
  obtain ⟨g0, hg0⟩ : ∃ x, x = w.heap.size := ⟨_, rfl⟩
  rw [show (w.alloc (.cells #[.int .u32 0, .int .u32 0, .int .u32 0, .int .u32 0, .int .u32 0, .int .u32 0, .int .u32 0, .int .u32 0, .int .u32 0, .int .u32 0, .int .u32 0, .int .u32 0, .int .u32 0, .int .u32 0, .int .u32 0, .int .u32 0] 202)).heap.size = w.heap.size + 1 from by simp, ← tabV_zero] at K1
  rw [tabV_zero] at K1
  rw [← hW] at K1 K0 B1 ⊢
  rw [← hg] at K1 ⊢
  rw [← hg0] at K0 ⊢
  rw [← tabV_zero] at K1
  have HG0 := Lib.hid (show w.heap.size ≤ g0 from by omega)
  have HG := Lib.hid (show g0 < g from by omega)
  clear hW hg hg0
  go_wp2
  go_loopw [5] (fun i wr => ∃ K : Nat, i = .int .i64 K ∧ K ≤ 16 ∧ Hid (Blk wr g 202 (tabV K)) ∧ Hid (Blk wr g0 202 #[.int .u32 0, .int .u32 0, .int .u32 0, .int .u32 0, .int .u32 0, .int .u32 0, .int .u32 0, .int .u32 0, .int .u32 0, .int .u32 0, .int .u32 0, .int .u32 0, .int .u32 0, .int .u32 0, .int .u32 0, .int .u32 0]) ∧ Hid (Below w.heap.size w wr)) (fun i _ => 16 - (intOf i).toNat)
  case atStart => exact ⟨0, rfl, by omega, K1, K0, B1⟩
  case round =>
    obtain ⟨K, rfl, hK, hB1, hB0, hBel⟩ := hrel
    clear K1 K0 B1
    by_cases hlt : (K : Int) < 16
    · have Ew : IntKind.u32.wrap (K : Int) = (K : Int) := by simp [IntKind.wrap, IntKind.bits, IntKind.signed]; omega
      go_wp2
      go_loop [3, 10] (fun r j => ∃ m R : Nat, j = .int .i64 m ∧ m ≤ 4 ∧ r = .int .u32 R ∧ Hid (R = stepsF m K)) (fun _ j => 4 - (intOf j).toNat)
      case atStart => exact ⟨0, K, rfl, by omega, rfl, Lib.hid rfl⟩
      case round =>
        obtain ⟨m, R, rfl, hm, rfl, hR⟩ := hrel
        have hR32 : R < 4294967296 := by rw [hR.out]; exact stepsF_lt (by omega) m
        by_cases hmlt : (m : Int) < 4
        · have Eand := and1_u32 R hR32
          obtain ⟨q, hq⟩ : ∃ q, q = R / 2 := ⟨_, rfl⟩
          have Ehalf : (R : Int) / 2 = (q : Int) := by omega
          have hm1 : m + 1 ≤ 4 := by omega
          have Exor := xor_poly q (by omega)
          rcases (show R % 2 = 0 ∨ R % 2 = 1 from by omega) with h0 | h0
          · have HR2 := Lib.hid (show q = stepsF (m + 1) K from by rw [stepsF, ← hR.out]; unfold stepF; rw [if_neg (by omega), hq])
            rw [h0] at Eand
            clear hq h0 hR hR32 Exor
            go_wp2
            exact ⟨⟨m + 1, q, by go_num, hm1, rfl, HR2⟩, by simp [intOf]; omega⟩
          · obtain ⟨y, hy⟩ : ∃ y, y = q ^^^ 3988292384 := ⟨_, rfl⟩
            have HR2 := Lib.hid (show y = stepsF (m + 1) K from by rw [stepsF, ← hR.out]; unfold stepF; rw [if_pos h0, ← hq, hy])
            rw [h0] at Eand
            rw [← hy] at Exor
            clear hq h0 hR hR32 hy
            go_wp2
            exact ⟨⟨m + 1, y, by go_num, hm1, rfl, HR2⟩, by simp [intOf]; omega⟩
        · obtain rfl : m = 4 := by omega
          have hKN : K < 16 := by omega
          have HB2 := Lib.hid (show Blk (wr.setCell ⟨g, K, none⟩ (.int .u32 (R : Int))) g 202 (tabV (K + 1)) from by rw [hR.out]; show Blk (wr.setCell ⟨g, K, none⟩ (.int .u32 ((tabF K : Nat) : Int))) _ _ _; rw [← tabV_set hKN]; exact hB1.out.set_ K _)
          have HB02 := Lib.hid (hB0.out.far (p := ⟨g, K, none⟩) (by have := HG.out; show ¬ g0 = g; omega) (.int .u32 (R : Int)))
          have HBel2 := Lib.hid (hBel.out.setCell (p := ⟨g, K, none⟩) (by have := HG.out; have := HG0.out; show w.heap.size ≤ g; omega) (.int .u32 (R : Int)))
          have f := hB1.out.frozen K
          have hc : ∃ u, wr.cell? ⟨g, K, none⟩ = some u := ⟨_, (hB1.out.cell K).trans (Array.getElem?_eq_getElem (by unfold tabV; simp; omega))⟩
          obtain ⟨u, hc⟩ := hc
          have hK1 : K + 1 ≤ 16 := by omega
          clear hR hR32 hB1 hB0 hBel
          go_wp2
          exact ⟨⟨K + 1, by go_num, hK1, HB2, HB02, HBel2⟩, by simp [intOf]; omega⟩
    · obtain rfl : K = 16 := by omega
      have K16 := Lib.hid (show Blk wr g 202 #[.int .u32 0, .int .u32 498536548, .int .u32 997073096, .int .u32 651767980, .int .u32 1994146192, .int .u32 1802195444, .int .u32 1303535960, .int .u32 1342533948, .int .u32 3988292384, .int .u32 4027552580, .int .u32 3604390888, .int .u32 3412177804, .int .u32 2607071920, .int .u32 2262029012, .int .u32 2685067896, .int .u32 3183342108] from by rw [← tabV_full]; exact hB1.out)
      have e0 := hB0.out.set_ 0 (.int .u32 0)
      have e1 := e0.set_ 1 (.int .u32 498536548)
      have e2 := e1.set_ 2 (.int .u32 997073096)
      have e3 := e2.set_ 3 (.int .u32 651767980)
      have e4 := e3.set_ 4 (.int .u32 1994146192)
      have e5 := e4.set_ 5 (.int .u32 1802195444)
      have e6 := e5.set_ 6 (.int .u32 1303535960)
      have e7 := e6.set_ 7 (.int .u32 1342533948)
      have e8 := e7.set_ 8 (.int .u32 3988292384)
      have e9 := e8.set_ 9 (.int .u32 4027552580)
      have e10 := e9.set_ 10 (.int .u32 3604390888)
      have e11 := e10.set_ 11 (.int .u32 3412177804)
      have e12 := e11.set_ 12 (.int .u32 2607071920)
      have e13 := e12.set_ 13 (.int .u32 2262029012)
      have e14 := e13.set_ 14 (.int .u32 2685067896)
      have e15 := e14.set_ 15 (.int .u32 3183342108)
      obtain ⟨wf, hwf⟩ : ∃ x, x = ((((((((((((((((wr.setCell ⟨g0, 0, none⟩ (.int .u32 0)).setCell ⟨g0, 1, none⟩ (.int .u32 498536548)).setCell ⟨g0, 2, none⟩ (.int .u32 997073096)).setCell ⟨g0, 3, none⟩ (.int .u32 651767980)).setCell ⟨g0, 4, none⟩ (.int .u32 1994146192)).setCell ⟨g0, 5, none⟩ (.int .u32 1802195444)).setCell ⟨g0, 6, none⟩ (.int .u32 1303535960)).setCell ⟨g0, 7, none⟩ (.int .u32 1342533948)).setCell ⟨g0, 8, none⟩ (.int .u32 3988292384)).setCell ⟨g0, 9, none⟩ (.int .u32 4027552580)).setCell ⟨g0, 10, none⟩ (.int .u32 3604390888)).setCell ⟨g0, 11, none⟩ (.int .u32 3412177804)).setCell ⟨g0, 12, none⟩ (.int .u32 2607071920)).setCell ⟨g0, 13, none⟩ (.int .u32 2262029012)).setCell ⟨g0, 14, none⟩ (.int .u32 2685067896)).setCell ⟨g0, 15, none⟩ (.int .u32 3183342108)) := ⟨_, rfl⟩
      rw [← hwf] at e15
      have E15 := Lib.hid (show Blk wf g0 202 #[.int .u32 0, .int .u32 498536548, .int .u32 997073096, .int .u32 651767980, .int .u32 1994146192, .int .u32 1802195444, .int .u32 1303535960, .int .u32 1342533948, .int .u32 3988292384, .int .u32 4027552580, .int .u32 3604390888, .int .u32 3412177804, .int .u32 2607071920, .int .u32 2262029012, .int .u32 2685067896, .int .u32 3183342108] from by simpa using e15)
      have BF := Lib.hid (show Below w.heap.size w wf from by
        rw [hwf]
        exact ((((((((((((((((hBel.out.setCell (p := ⟨g0, 0, none⟩) HG0.out _).setCell (p := ⟨g0, 1, none⟩) HG0.out _).setCell (p := ⟨g0, 2, none⟩) HG0.out _).setCell (p := ⟨g0, 3, none⟩) HG0.out _).setCell (p := ⟨g0, 4, none⟩) HG0.out _).setCell (p := ⟨g0, 5, none⟩) HG0.out _).setCell (p := ⟨g0, 6, none⟩) HG0.out _).setCell (p := ⟨g0, 7, none⟩) HG0.out _).setCell (p := ⟨g0, 8, none⟩) HG0.out _).setCell (p := ⟨g0, 9, none⟩) HG0.out _).setCell (p := ⟨g0, 10, none⟩) HG0.out _).setCell (p := ⟨g0, 11, none⟩) HG0.out _).setCell (p := ⟨g0, 12, none⟩) HG0.out _).setCell (p := ⟨g0, 13, none⟩) HG0.out _).setCell (p := ⟨g0, 14, none⟩) HG0.out _).setCell (p := ⟨g0, 15, none⟩) HG0.out _))
      have HWF := Lib.hid hwf
      clear e0 e1 e2 e3 e4 e5 e6 e7 e8 e9 e10 e11 e12 e13 e14 e15 hwf hBel hB1
      have q0 := K16.out.cell 0
      have z0 := hB0.out.cell 0
      have f0 := hB0.out.frozen 0
      have q1 := K16.out.cell 1
      have z1 := hB0.out.cell 1
      have f1 := hB0.out.frozen 1
      have q2 := K16.out.cell 2
      have z2 := hB0.out.cell 2
      have f2 := hB0.out.frozen 2
      have q3 := K16.out.cell 3
      have z3 := hB0.out.cell 3
      have f3 := hB0.out.frozen 3
      have q4 := K16.out.cell 4
      have z4 := hB0.out.cell 4
      have f4 := hB0.out.frozen 4
      have q5 := K16.out.cell 5
      have z5 := hB0.out.cell 5
      have f5 := hB0.out.frozen 5
      have q6 := K16.out.cell 6
      have z6 := hB0.out.cell 6
      have f6 := hB0.out.frozen 6
      have q7 := K16.out.cell 7
      have z7 := hB0.out.cell 7
      have f7 := hB0.out.frozen 7
      have q8 := K16.out.cell 8
      have z8 := hB0.out.cell 8
      have f8 := hB0.out.frozen 8
      have q9 := K16.out.cell 9
      have z9 := hB0.out.cell 9
      have f9 := hB0.out.frozen 9
      have q10 := K16.out.cell 10
      have z10 := hB0.out.cell 10
      have f10 := hB0.out.frozen 10
      have q11 := K16.out.cell 11
      have z11 := hB0.out.cell 11
      have f11 := hB0.out.frozen 11
      have q12 := K16.out.cell 12
      have z12 := hB0.out.cell 12
      have f12 := hB0.out.frozen 12
      have q13 := K16.out.cell 13
      have z13 := hB0.out.cell 13
      have f13 := hB0.out.frozen 13
      have q14 := K16.out.cell 14
      have z14 := hB0.out.cell 14
      have f14 := hB0.out.frozen 14
      have q15 := K16.out.cell 15
      have z15 := hB0.out.cell 15
      have f15 := hB0.out.frozen 15
      simp only [List.getElem?_toArray, List.getElem?_cons_zero, List.getElem?_cons_succ] at q0 z0 q1 z1 q2 z2 q3 z3 q4 z4 q5 z5 q6 z6 q7 z7 q8 z8 q9 z9 q10 z10 q11 z11 q12 z12 q13 z13 q14 z14 q15 z15
      go_wp2
      rw [← HWF.out]
      have y0 := E15.out.cell 0
      have y1 := E15.out.cell 1
      have y2 := E15.out.cell 2
      have y3 := E15.out.cell 3
      have y4 := E15.out.cell 4
      have y5 := E15.out.cell 5
      have y6 := E15.out.cell 6
      have y7 := E15.out.cell 7
      have y8 := E15.out.cell 8
      have y9 := E15.out.cell 9
      have y10 := E15.out.cell 10
      have y11 := E15.out.cell 11
      have y12 := E15.out.cell 12
      have y13 := E15.out.cell 13
      have y14 := E15.out.cell 14
      have y15 := E15.out.cell 15
      simp only [List.getElem?_toArray, List.getElem?_cons_zero, List.getElem?_cons_succ] at y0 y1 y2 y3 y4 y5 y6 y7 y8 y9 y10 y11 y12 y13 y14 y15
      rw [tabV_full]
      exact bodyPost_ret (v := .agg #[.int .u32 0, .int .u32 498536548, .int .u32 997073096, .int .u32 651767980, .int .u32 1994146192, .int .u32 1802195444, .int .u32 1303535960, .int .u32 1342533948, .int .u32 3988292384, .int .u32 4027552580, .int .u32 3604390888, .int .u32 3412177804, .int .u32 2607071920, .int .u32 2262029012, .int .u32 2685067896, .int .u32 3183342108]) (by simp [results, Try.results141, go_sem, y0, y1, y2, y3, y4, y5, y6, y7, y8, y9, y10, y11, y12, y13, y14, y15]) rfl ⟨rfl, BF.out⟩
end Go.Proofs.Ytoecgkdipgaaeaa
/- The sum of bytes, by contract: More, Of. -/
namespace Go.Proofs.Ytoecgkdipgaaeaa
open Go.RowKit

/-- What the register comes to over half a byte, and over a byte. -/
def halfF (r : Nat) : Nat := (r / 16) ^^^ tabF (r % 16)
def regF (r : Nat) (x : UInt8) : Nat := halfF (halfF (r ^^^ x.toNat))
/-- The sum of bytes. -/
def sumF (b : List UInt8) : Nat := 4294967295 - b.foldl regF 4294967295
theorem tabF_lt {i : Nat} (h : i < 16) : tabF i < 4294967296 := stepsF_lt (by omega) 4
theorem halfF_lt {r : Nat} (h : r < 4294967296) : halfF r < 4294967296 := by
  unfold halfF
  exact Nat.xor_lt_two_pow (n := 32) (by omega) (tabF_lt (by omega))
theorem regF_lt {r : Nat} (h : r < 4294967296) (x : UInt8) : regF r x < 4294967296 := by
  unfold regF
  have := x.toNat_lt
  exact halfF_lt (halfF_lt (Nat.xor_lt_two_pow (n := 32) h (by omega)))
theorem foldl_lt (b : List UInt8) : ∀ {r : Nat}, r < 4294967296 → b.foldl regF r < 4294967296 := by
  induction b with
  | nil => intro r h; exact h
  | cons x b ih => intro r h; exact ih (regF_lt h x)
theorem sumF_lt (b : List UInt8) : sumF b < 4294967296 := by unfold sumF; omega
theorem fold_snoc {b : List UInt8} {K : Nat} (h : K < b.length) (r : Nat) : (b.take (K + 1)).foldl regF r = regF ((b.take K).foldl regF r) b[K] := by
  rw [List.take_succ_eq_append_getElem h, List.foldl_append]; rfl
theorem tab_cell {w : World} {g : Nat} (h : Blk w g 202 (tabV 16)) {j : Nat} (hj : j < 16) : w.cell? ⟨g, j, none⟩ = some (.int .u32 ((tabF j : Nat) : Int)) := by
  rw [h.cell j]
  unfold tabV
  rw [List.getElem?_toArray, List.getElem?_map, List.getElem?_range hj]
  simp only [Option.map_some, if_pos hj]
theorem mask15 (r : Nat) (h : r < 4294967296) : bits .and .u32 (r : Int) 15 = ((r % 16 : Nat) : Int) := by
  rw [show (15 : Int) = ((15 : Nat) : Int) from rfl, u32_and_nat _ _ h (by omega)]
  congr 1
  exact Nat.and_two_pow_sub_one_eq_mod r 4
theorem u32_ones0 (b : Nat) (hb : b < 2 ^ 32) : (2 ^ 32 - 1) ^^^ b = 2 ^ 32 - 1 - b := by
  apply Nat.eq_of_testBit_eq
  intro i
  rw [Nat.testBit_xor, Nat.testBit_two_pow_sub_one, show 2 ^ 32 - 1 - b = 2 ^ 32 - (b + 1) by omega, Nat.testBit_two_pow_sub_succ hb]
  by_cases hi : i < 32
  · simp [hi]
  · have : b.testBit i = false := Nat.testBit_lt_two_pow (Nat.lt_of_lt_of_le hb (Nat.pow_le_pow_right (by decide) (by omega)))
    simp [hi, this]
theorem not_u32 (r : Nat) (h : r < 4294967296) : bits .xor .u32 IntKind.u32.max (r : Int) = 4294967295 - (r : Int) := by
  rw [show IntKind.u32.max = ((4294967295 : Nat) : Int) from rfl, u32_xor_nat _ _ (by omega) h, show (4294967295 : Nat) = 2 ^ 32 - 1 from rfl, u32_ones0 r (by omega)]
  omega
set_option maxRecDepth 100000 in
set_option maxHeartbeats 1600000 in
theorem more_any {w : World} {B c : Nat} {A : Option Addr} {b : List UInt8} (hr : BReads w B A b) (hB : B ≤ w.heap.size) (hl : b.length ≤ 140737488355328) :
    Calls Try.prog 129 #[.int .u32 0, .slice A b.length c] w fun e w' => e = .returned (.int .u32 (sumF b)) ∧ Below w.heap.size w w' := by
  have H0 := Lib.hid hr
  have HB := Lib.hid hB
  clear hr hB
  go_enter Try.func129, Try.ntmps129
  go_wp2_with fail
  refine steps_any.mono ?_
  rintro e w1 ⟨rfl, hb⟩
  have R1 := Lib.hid ((H0.out.more HB.out).below hb)
  have K2 := Lib.hid (Blk.new w1 202 (tabV 16))
  have B2 := Lib.hid (hb.trans (((Below.refl w1.heap.size w1).alloc (Nat.le_refl _) (.cells (tabV 16) 202)).mono hb.size))
  have R2 := Lib.hid (R1.out.below (((Below.refl w1.heap.size w1).alloc (Nat.le_refl _) (.cells (tabV 16) 202)).mono hb.size))
  rw [tabV_full] at K2 B2 R2 ⊢
  clear hb
  go_upto_region 3 with fail
  obtain ⟨w2, hw2⟩ : ∃ x, x = w1.alloc (.cells #[.int .u32 0, .int .u32 498536548, .int .u32 997073096, .int .u32 651767980, .int .u32 1994146192, .int .u32 1802195444, .int .u32 1303535960, .int .u32 1342533948, .int .u32 3988292384, .int .u32 4027552580, .int .u32 3604390888, .int .u32 3412177804, .int .u32 2607071920, .int .u32 2262029012, .int .u32 2685067896, .int .u32 3183342108] 202) := ⟨_, rfl⟩
  obtain ⟨g, hg⟩ : ∃ x, x = w1.heap.size := ⟨_, rfl⟩
  rw [← hw2] at K2 B2 R2 ⊢
  rw [← hg] at K2 ⊢
  rw [← tabV_full] at K2
  clear hw2 hg R1
  go_wp2
  go_loop [6, 14] (fun r i => ∃ K R : Nat, i = .int .i64 K ∧ K ≤ b.length ∧ r = .int .u32 R ∧ Hid (R = (b.take K).foldl regF 4294967295)) (fun _ i => b.length - (intOf i).toNat)
  case atStart => exact ⟨0, 4294967295, rfl, by omega, rfl, Lib.hid rfl⟩
  case round =>
    obtain ⟨K, R, rfl, hK, rfl, hR⟩ := hrel
    have hR32 : R < 4294967296 := by rw [hR.out]; exact foldl_lt _ (by omega)
    by_cases hlt : (K : Int) < b.length
    · have hKN : K < b.length := by omega
      obtain ⟨bb, off, rfl, hbb, hc⟩ := R2.out.at_ hKN
      obtain ⟨x, hx⟩ : ∃ x, x = b[K] := ⟨_, rfl⟩
      have HS := Lib.hid (show (b.take (K + 1)).foldl regF 4294967295 = regF R x from by rw [fold_snoc hKN, hx, hR.out])
      rw [← hx] at hc
      have hx8 := x.toNat_lt
      obtain ⟨r1, hr1⟩ : ∃ r1, r1 = R ^^^ x.toNat := ⟨_, rfl⟩
      have h1 : r1 < 4294967296 := by rw [hr1]; exact Nat.xor_lt_two_pow (n := 32) hR32 (by omega)
      have E1 : bits .xor .u32 (R : Int) (x.toNat : Int) = (r1 : Int) := by rw [u32_xor_nat _ _ hR32 (by omega), hr1]
      have Ew : IntKind.u32.wrap (x.toNat : Int) = (x.toNat : Int) := by simp [IntKind.wrap, IntKind.bits, IntKind.signed]; omega
      obtain ⟨q1, hq1⟩ : ∃ q, q = r1 / 16 := ⟨_, rfl⟩
      obtain ⟨m1, hm1⟩ : ∃ q, q = r1 % 16 := ⟨_, rfl⟩
      have Em1 := mask15 r1 h1
      rw [← hm1] at Em1
      have Eq1 : (r1 : Int) / 16 = (q1 : Int) := by omega
      have hm16 : m1 < 16 := by omega
      have c1 := tab_cell K2.out hm16
      obtain ⟨t1, ht1⟩ : ∃ t, t = tabF m1 := ⟨_, rfl⟩
      have hl1 : t1 < 4294967296 := by rw [ht1]; exact tabF_lt hm16
      obtain ⟨r2, hr2⟩ : ∃ r, r = q1 ^^^ t1 := ⟨_, rfl⟩
      have h2 : r2 < 4294967296 := by rw [hr2]; exact Nat.xor_lt_two_pow (n := 32) (by omega) hl1
      have E2 : bits .xor .u32 (q1 : Int) (t1 : Int) = (r2 : Int) := by rw [u32_xor_nat _ _ (by omega) hl1, hr2]
      have HR2 := Lib.hid (show r2 = halfF r1 from by rw [hr2, ht1, hq1, hm1]; rfl)
      rw [← ht1] at c1
      obtain ⟨q2, hq2⟩ : ∃ q, q = r2 / 16 := ⟨_, rfl⟩
      obtain ⟨m2, hm2⟩ : ∃ q, q = r2 % 16 := ⟨_, rfl⟩
      have Em2 := mask15 r2 h2
      rw [← hm2] at Em2
      have Eq2 : (r2 : Int) / 16 = (q2 : Int) := by omega
      have hm26 : m2 < 16 := by omega
      have c2 := tab_cell K2.out hm26
      obtain ⟨t2, ht2⟩ : ∃ t, t = tabF m2 := ⟨_, rfl⟩
      have hl2 : t2 < 4294967296 := by rw [ht2]; exact tabF_lt hm26
      obtain ⟨r3, hr3⟩ : ∃ r, r = q2 ^^^ t2 := ⟨_, rfl⟩
      have E3 : bits .xor .u32 (q2 : Int) (t2 : Int) = (r3 : Int) := by rw [u32_xor_nat _ _ (by omega) hl2, hr3]
      have HR3 := Lib.hid (show r3 = regF R x from by unfold regF; rw [← hr1, ← HR2.out]; rw [hr3, ht2, hq2, hm2]; rfl)
      rw [← ht2] at c2
      have HN := Lib.hid (show r3 = (b.take (K + 1)).foldl regF 4294967295 from by rw [HS.out, HR3.out])
      have hK1 : K + 1 ≤ b.length := by omega
      have hm16i : (m1 : Int) < 16 := by omega
      have hm26i : (m2 : Int) < 16 := by omega
      clear hx HS hr1 hq1 hm1 ht1 hr2 HR2 hq2 hm2 ht2 hr3 HR3 hR hR32 h1 h2 hl1 hl2
      go_wp2
      exact ⟨⟨K + 1, r3, by go_num, hK1, rfl, HN⟩, by simp [intOf]; omega⟩
    · obtain rfl : K = b.length := by omega
      have HE := Lib.hid (show (sumF b : Int) = 4294967295 - (R : Int) from by unfold sumF; rw [hR.out, List.take_length] at hR32; rw [hR.out, List.take_length]; omega)
      clear hR
      go_wp2
      go_ret
      exact ⟨by rw [HE.out, ← not_u32 R hR32]; rfl, B2.out⟩
theorem of_any {w : World} {B c : Nat} {A : Option Addr} {b : List UInt8} (hr : BReads w B A b) (hB : B ≤ w.heap.size) (hl : b.length ≤ 140737488355328) :
    Calls Try.prog 117 #[.slice A b.length c] w fun e w' => e = .returned (.int .u32 (sumF b)) ∧ Below w.heap.size w w' := by
  have hm := more_any (c := c) hr hB hl
  clear hr
  go_enter Try.func117, Try.ntmps117
  go_wp2_with fail
  refine hm.mono ?_
  rintro e w1 ⟨rfl, hb⟩
  have HB := Lib.hid hb
  clear hb hm
  go_wp2
  go_ret
  exact ⟨rfl, HB.out⟩
end Go.Proofs.Ytoecgkdipgaaeaa
/- The reader's methods Int, Bytes, Text, Take: contracts against the plain reader (printed by a program of this claim's own). -/
namespace Go.Proofs.Ytoecgkdipgaaeaa
open Go.RowKit
set_option linter.unusedSimpArgs false

end Go.Proofs.Ytoecgkdipgaaeaa
/- The reader's Take at every kind: contracts (printed by a program of this claim's own). -/
namespace Go.Proofs.Ytoecgkdipgaaeaa
open Go.RowKit
set_option linter.unusedSimpArgs false
end Go.Proofs.Ytoecgkdipgaaeaa
/- What is read is put as just the bytes that were taken. No program in sight. -/
namespace Go.Proofs.Ytoecgkdipgaaeaa
open Go.RowKit

theorem scan_back {l : List UInt8} : ∀ {i u v k : Nat}, scan i u l = .ok (v, k) → ∃ q, v = u + q * 128 ^ i ∧ k = i + (shortF q).length ∧ l.take (k - i) = shortF q ∧ (0 < i → 0 < q) := by
  induction l with
  | nil => intro i u v k h; simp [scan] at h
  | cons b r ih =>
    intro i u v k h
    have hb := b.toNat_lt
    rw [scan] at h
    by_cases h9 : i = 9 ∧ 1 < b.toNat
    · rw [if_pos h9] at h; cases h
    · rw [if_neg h9] at h
      by_cases h1 : 128 ≤ b.toNat
      · rw [if_pos h1] at h
        obtain ⟨q, hv, hk, ht, hq⟩ := ih h
        have hq0 := hq (by omega)
        have e1 : (b.toNat % 128 + 128 * q) % 128 + 128 = b.toNat := by omega
        have e2 : (b.toNat % 128 + 128 * q) / 128 = q := by omega
        have hs : shortF (b.toNat % 128 + 128 * q) = b :: shortF q := by
          rw [shortF_big (by omega), e1, e2, UInt8.ofNat_toNat]
        refine ⟨b.toNat % 128 + 128 * q, ?_, by rw [hs, List.length_cons]; omega, ?_, fun _ => by omega⟩
        · rw [hv, Nat.pow_succ, Nat.add_mul, Nat.mul_assoc 128 q, Nat.mul_comm 128 (q * 128 ^ i), Nat.mul_assoc, Nat.add_assoc]
        · have hpos := shortF_pos q
          rw [hs, show k - i = (k - (i + 1)) + 1 from by omega, List.take_succ_cons, ht]
      · rw [if_neg h1] at h
        by_cases h2 : b.toNat = 0 ∧ 0 < i
        · rw [if_pos h2] at h; cases h
        · rw [if_neg h2] at h
          injection h with h
          injection h with h3 h4
          have hs : shortF b.toNat = [b] := by rw [shortF_small (by omega), UInt8.ofNat_toNat]
          refine ⟨b.toNat, by rw [← h3, Nat.mod_eq_of_lt (by omega)], by rw [hs]; simp; omega, ?_, fun hi => by omega⟩
          rw [hs, show k - i = 0 + 1 from by omega, List.take_succ_cons, List.take_zero]
theorem fold_unfold (u : Nat) : foldI (unfoldI u) = u := by
  unfold foldI unfoldI
  split <;> split <;> omega
theorem numberF_back {low high n : Int} {l : List UInt8} {k : Nat} (h : numberF low high l = .ok (n, k)) : intF n = l.take k := by
  unfold numberF at h
  split at h
  · cases h
  · cases hs : scan 0 0 l with
    | error e => rw [hs] at h; cases h
    | ok x =>
      obtain ⟨u, k'⟩ := x
      rw [hs] at h
      simp only at h
      split at h
      · cases h
      · injection h with h
        injection h with h3 h4
        subst h3; subst h4
        obtain ⟨q, hv, hk, ht, _⟩ := scan_back hs
        simp only [Nat.zero_add, Nat.pow_zero, Nat.mul_one, Nat.sub_zero] at hv ht
        unfold intF
        rw [fold_unfold, hv, ht]
theorem blockF_back {most : Int} {l p : List UInt8} {k : Nat} (h : blockF most l = .ok (p, k)) : intF p.length ++ p = l.take k := by
  unfold blockF at h
  split at h
  · cases h
  · cases hn : numberF 0 most l with
    | error e => rw [hn] at h; cases h
    | ok x =>
      obtain ⟨n, j⟩ := x
      rw [hn] at h
      simp only at h
      split at h
      · cases h
      · injection h with h
        injection h with h3 h4
        have hb := numberF_ok hn
        have hk := numberF_back hn
        have hp : (p.length : Int) = n := by rw [← h3, List.length_take, List.length_drop]; omega
        rw [hp, hk, ← h3, ← h4, List.take_add]
theorem blockF_err {most e : Int} {l : List UInt8} (h : blockF most l = .error e) : ¬ e = 0 := by
  unfold blockF at h
  split at h
  · injection h with h; omega
  · cases hn : numberF 0 most l with
    | error e' => rw [hn] at h; injection h with h; have := numberF_err hn; omega
    | ok x =>
      obtain ⟨n, j⟩ := x
      rw [hn] at h
      simp only at h
      split at h
      · injection h with h; omega
      · cases h
theorem beN_beVal : ∀ (k : Nat) (l : List UInt8), l.length = k → beN k (beVal l) = l := by
  intro k
  induction k with
  | zero => intro l hl; rw [List.eq_nil_of_length_eq_zero hl]; rfl
  | succ k ih =>
    intro l hl
    cases l with
    | nil => simp at hl
    | cons a r =>
      have hr : r.length = k := by simpa using hl
      have hval : ∀ (r : List UInt8) (x : Nat), r.foldl (fun v b => v * 256 + b.toNat) x = x * 256 ^ r.length + beVal r := by
        intro r
        induction r with
        | nil => intro x; simp [beVal]
        | cons c s ihs =>
          intro x
          have e : beVal (c :: s) = s.foldl (fun v b => v * 256 + b.toNat) (0 * 256 + c.toNat) := rfl
          rw [List.foldl_cons, ihs, e, ihs, List.length_cons, Nat.pow_succ, Nat.add_mul, Nat.add_mul, Nat.mul_assoc, Nat.mul_comm 256]
          omega
      have hlt : beVal r < 256 ^ k := by have := beVal_lt r k; rwa [List.take_of_length_le (by omega)] at this
      have hv : beVal (a :: r) = a.toNat * 256 ^ k + beVal r := by
        have e : beVal (a :: r) = r.foldl (fun v b => v * 256 + b.toNat) (0 * 256 + a.toNat) := rfl
        rw [e, hval, hr]; simp
      have hp : 0 < 256 ^ k := Nat.pow_pos (by decide)
      have ha := a.toNat_lt
      have h1 : (a.toNat * 256 ^ k + beVal r) / 256 ^ k % 256 = a.toNat := by
        rw [Nat.mul_comm, Nat.mul_add_div hp, Nat.div_eq_of_lt hlt]; omega
      have h2 : ∀ (m : Nat) (x y : Nat), beN m (x * 256 ^ m + y) = beN m y := by
        intro m
        induction m with
        | zero => intros; rfl
        | succ m ihm =>
          intro x y
          have e1 : x * 256 ^ (m + 1) + y = (x * 256) * 256 ^ m + y := by rw [Nat.pow_succ, Nat.mul_comm (256 ^ m), Nat.mul_assoc]
          have hpm : 0 < 256 ^ m := Nat.pow_pos (by decide)
          rw [beN, beN, e1, ihm, Nat.mul_comm (x * 256), Nat.mul_add_div hpm]
          congr 2
          omega
      rw [hv, beN, h1, h2, ih r hr, UInt8.ofNat_toNat]
end Go.Proofs.Ytoecgkdipgaaeaa
