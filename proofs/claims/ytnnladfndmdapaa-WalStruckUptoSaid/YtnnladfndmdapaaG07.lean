/- Contracts and plain laws that this claim leans on, laid together: TwoR, Wal4R, Solid. -/
import Derived.Test.YtnnladfndmdapaaG03
import Derived.Test.YtnnladfndmdapaaG06
import Derived.Test.YtnnladfndmdapaaG04
set_option linter.all false
set_option linter.unusedVariables false
set_option linter.unusedSimpArgs false
set_option linter.unnecessarySimpa false
/- A region of two calls that answer entries, each stored in a box of its own: in whatever order. -/
namespace Go.Proofs.Ytnnladfndmdapaa
open Go.RowKit

def twoOps (f g : FuncId) (s9 s1 s2 s3 s4 d1 d2 : Nat) (ps : String) : Array Oper :=
  #[{ dst := some s1, op := .load 43 (.tmp s9), type := 43, pos := ps, after := #[], guard := none },
    { dst := some s2, op := .call { callee := .value (.func f), args := #[.tmp s1], argTypes := #[43] }, type := 25, pos := ps, after := #[{ on := 0, ground := .data }], guard := none },
    { dst := some s3, op := .load 43 (.tmp s9), type := 43, pos := ps, after := #[], guard := none },
    { dst := some s4, op := .call { callee := .value (.func g), args := #[.tmp s3], argTypes := #[43] }, type := 25, pos := ps, after := #[{ on := 2, ground := .data }, { on := 1, ground := .chain }], guard := none },
    { dst := some d1, op := .alloc 25, type := 0, pos := ps, after := #[], guard := none },
    { dst := some d2, op := .alloc 25, type := 0, pos := ps, after := #[], guard := none },
    { dst := none, op := .store 25 (.tmp d1) (.tmp s2), type := 0, pos := ps,
      after := #[{ on := 4, ground := .data }, { on := 1, ground := .data }, { on := 3, ground := .chain }, { on := 0, ground := .phase }, { on := 1, ground := .phase }, { on := 2, ground := .textOnly .lateStores }, { on := 3, ground := .textOnly .lateStoresUnsure }, { on := 4, ground := .phase }, { on := 5, ground := .phase }], guard := none },
    { dst := none, op := .store 25 (.tmp d2) (.tmp s4), type := 0, pos := ps,
      after := #[{ on := 5, ground := .data }, { on := 3, ground := .data }, { on := 6, ground := .chain }, { on := 0, ground := .phase }, { on := 1, ground := .phase }, { on := 2, ground := .phase }, { on := 3, ground := .phase }, { on := 4, ground := .phase }, { on := 5, ground := .phase }, { on := 6, ground := .phase }], guard := none }]
def zeroE : Array Value := #[.int .i64 0, .int .i64 0, .int .i64 0, .string ⟨#[]⟩, .slice none 0 0, .bool false]
/-- A call's answer: nothing yet, or the entry, its bytes a row. -/
def Ans (b : Bool) (x : En) (u : Value) (i : Item) : Prop := if b then ∃ A c, u = .agg (x.cells A c) ∧ i = Item.row (.slice A x.value.length c) x.value else i = Item.none
/-- A box: none yet, an empty one, the answer's. -/
def Box (b s : Bool) (x : En) (u ud : Value) (i : Item) : Prop :=
  if s then ∃ A c g, u = .agg (x.cells A c) ∧ ud = .pointer (some ⟨g, 0, none⟩) ∧ i = Item.blk g 25 (x.cells A c)
  else if b then ∃ g, ud = .pointer (some ⟨g, 0, none⟩) ∧ i = Item.blk g 25 zeroE else i = Item.none
structure TwoInv (a0 : Act) (w0 : World) (M : List Item) (V : Value) (x y : En) (s1 s2 s3 s4 d1 d2 : Nat) (L : Nat → Bool) (a : Act) (w : World) : Prop where
  fr : Fr [s1, s2, s3, s4, d1, d2] a0 a
  v1 : L 0 = true → a.tmps.getD s1 undef = V
  v3 : L 2 = true → a.tmps.getD s3 undef = V
  dn : (L 6 = true → L 1 = true ∧ L 4 = true) ∧ (L 7 = true → L 3 = true ∧ L 5 = true)
  it : ∃ i1 i2 j1 j2, Turn (Item.all []) w0 (Item.all (j1 :: j2 :: i1 :: i2 :: M)) w ∧ Ans (L 1) x (a.tmps.getD s2 undef) i1 ∧ Ans (L 3) y (a.tmps.getD s4 undef) i2 ∧
    Box (L 4) (L 6) x (a.tmps.getD s2 undef) (a.tmps.getD d1 undef) j1 ∧ Box (L 5) (L 7) y (a.tmps.getD s4 undef) (a.tmps.getD d2 undef) j2
theorem box_no {b t : Bool} {x : En} {u ud : Value} {i : Item} (h : t = false) : Box b t x u ud i ↔ (if b then ∃ g, ud = .pointer (some ⟨g, 0, none⟩) ∧ i = Item.blk g 25 zeroE else i = Item.none) := by
  subst h; unfold Box; rw [if_neg (by simp)]
theorem slot_ne {a : Act} {d k : Nat} {v : Value} (h : d < a.tmps.size) (hk : k ≠ d) : (a.put (some d) v).tmps.getD k undef = a.tmps.getD k undef := by rw [slot_get h, if_neg hk]
theorem slot_eq {a : Act} {d : Nat} {v : Value} (h : d < a.tmps.size) : (a.put (some d) v).tmps.getD d undef = v := by rw [slot_get h, if_pos rfl]
set_option maxRecDepth 100000 in
theorem two_step {f g : FuncId} {s9 s1 s2 s3 s4 d1 d2 : Nat} {ps : String} {a0 : Act} {w0 : World} {M : List Item} {x y : En} {g9 : Nat} {c0 c1 c2 c3 : Value} {Q : Exit → Act → World → Prop}
    (hS : [s9, s1, s2, s3, s4, d1, d2].Nodup) (hlt : ∀ s ∈ [s9, s1, s2, s3, s4, d1, d2], s < a0.tmps.size) (h9 : a0.tmps.getD s9 undef = .pointer (some ⟨g9, 0, none⟩)) (hM : Item.blk g9 43 #[c0, c1, c2, c3] ∈ M)
    (hcf : ∀ args w, (callFunc f args).run Try.prog w = .ok (.enter f args) w) (hcg : ∀ args w, (callFunc g args).run Try.prog w = .ok (.enter g args) w)
    (hf : ∀ N w, (Item.all (N ++ M)).P w → Calls Try.prog f #[.agg #[c0, c1, c2, c3]] w (GivesE w x)) (hg : ∀ N w, (Item.all (N ++ M)).P w → Calls Try.prog g #[.agg #[c0, c1, c2, c3]] w (GivesE w y)) :
    ∀ (L : Nat → Bool) (a : Act) (w : World) (i : Nat) (o : Oper), (twoOps f g s9 s1 s2 s3 s4 d1 d2 ps)[i]? = some o → L i = false → (∀ e ∈ o.after, Region.binds .any e = true → L e.on = true) → TwoInv a0 w0 M (.agg #[c0, c1, c2, c3]) x y s1 s2 s3 s4 d1 d2 L a w →
      wpOp Try.prog (twoOps f g s9 s1 s2 s3 s4 d1 d2 ps) Q i (TwoInv a0 w0 M (.agg #[c0, c1, c2, c3]) x y s1 s2 s3 s4 d1 d2 (upd L i)) a w := by
  intro L a w i o ho hL ha hI
  have hi : i < 8 := (Array.getElem?_eq_some_iff.1 ho).1
  simp only [List.nodup_cons, List.mem_cons, List.not_mem_nil, not_or, or_false, List.nodup_nil, not_false_eq_true, and_true] at hS
  obtain ⟨⟨n1, n2, n3, n4, n5, n6⟩, ⟨m2, m3, m4, m5, m6⟩, ⟨l3, l4, l5, l6⟩, ⟨k4, k5, k6⟩, ⟨q5, q6⟩, r6⟩ := hS
  have e9 : a.tmps.getD s9 undef = .pointer (some ⟨g9, 0, none⟩) := by rw [hI.fr.g s9 (by simp [n1, n2, n3, n4, n5, n6])]; exact h9
  obtain ⟨i1, i2, j1, j2, hT, hA1, hA2, hB1, hB2⟩ := hI.it
  have hb9 : Blk w g9 43 #[c0, c1, c2, c3] := Item.all_get hT.p (x := Item.blk g9 43 #[c0, c1, c2, c3]) (by simp [hM])
  have y0 := hb9.cell 0
  have y1 := hb9.cell 1
  have y2 := hb9.cell 2
  have y3 := hb9.cell 3
  simp at y0 y1 y2 y3
  have sz : ∀ s ∈ [s9, s1, s2, s3, s4, d1, d2], s < a.tmps.size := fun s hs => by rw [hI.fr.n]; exact hlt s hs
  unfold wpOp
  rw [ho]
  simp only
  rcases i with _ | _ | _ | _ | _ | _ | _ | _ | i
  · simp [twoOps] at ho
    subst ho
    rw [if_pos (by rfl)]
    refine .inl ?_
    simp [go_sem, e9, y0, y1, y2, y3]
    show TwoInv _ _ _ _ _ _ _ _ _ _ _ _ (upd L 0) (a.put (some s1) (.agg #[c0, c1, c2, c3])) w
    have hz : s1 < a.tmps.size := sz _ (by simp)
    refine ⟨hI.fr.put (by simp) _, fun h => ?_, fun h => ?_, hI.dn, i1, i2, j1, j2, hT, ?_, ?_, ?_, ?_⟩
    · rw [slot_eq hz]
    · rw [slot_ne hz (Ne.symm m3)]; exact hI.v3 h
    · rw [slot_ne hz (Ne.symm m2)]; exact hA1
    · rw [slot_ne hz (Ne.symm m4)]; exact hA2
    · rw [slot_ne hz (Ne.symm m2), slot_ne hz (Ne.symm m5)]; exact hB1
    · rw [slot_ne hz (Ne.symm m4), slot_ne hz (Ne.symm m6)]; exact hB2
  · simp [twoOps] at ho
    subst ho
    rw [if_pos (by rfl)]
    refine .inl ?_
    have hv : a.tmps.getD s1 undef = .agg #[c0, c1, c2, c3] := hI.v1 (ha ⟨0, .data⟩ (by simp) rfl)
    have hv' : a.tmps[s1]?.getD undef = .agg #[c0, c1, c2, c3] := by rw [← Array.getD_eq_getD_getElem?]; exact hv
    have hz : s2 < a.tmps.size := sz _ (by simp)
    have hLb : L 6 = false := by
      cases hq : L 6 with
      | false => rfl
      | true => have := (hI.dn.1 hq).1; rw [hL] at this; cases this
    simp only [go_sem, hcf, Oper.upon_enter]
    rw [show (#[] ++ Array.map a.eval #[Operand.tmp s1] ++ #[]) = #[.agg #[c0, c1, c2, c3]] from by simp [Act.eval, hv']]
    refine (hf [j1, j2, i1, i2] w hT.p).mono ?_
    rintro e w' ⟨A, c, rfl, ho, hb⟩
    show TwoInv _ _ _ _ _ _ _ _ _ _ _ _ (upd L 1) (a.put (some s2) (.agg (x.cells A c))) w'
    unfold Ans at hA1
    rw [hL, if_neg (by simp)] at hA1
    subst hA1
    have hT2 := hT.step (i := 2) rfl (Turn.ofNone (y := Item.row (.slice A x.value.length c) x.value) hb (owns_less ho (Nat.zero_le _)) (fun k hk => (ho.lt hk).1))
    refine ⟨hI.fr.put (by simp) _, fun h => ?_, fun h => ?_, ⟨fun h => ?_, fun h => ?_⟩, _, _, _, _, hT2, ?_, ?_, ?_, ?_⟩
    · rw [slot_ne hz m2]; exact hI.v1 h
    · rw [slot_ne hz (Ne.symm l3)]; exact hI.v3 h
    · have : L 6 = true := h; rw [hLb] at this; cases this
    · exact hI.dn.2 h
    · unfold Ans; exact ⟨A, c, by rw [slot_eq hz], rfl⟩
    · rw [slot_ne hz (Ne.symm l4)]; exact hA2
    · rw [slot_ne hz (Ne.symm l5)]; exact (box_no (show upd L 1 6 = false from hLb)).2 ((box_no hLb).1 hB1)
    · rw [slot_ne hz (Ne.symm l4), slot_ne hz (Ne.symm l6)]; exact hB2
  · simp [twoOps] at ho
    subst ho
    rw [if_pos (by rfl)]
    refine .inl ?_
    simp [go_sem, e9, y0, y1, y2, y3]
    show TwoInv _ _ _ _ _ _ _ _ _ _ _ _ (upd L 2) (a.put (some s3) (.agg #[c0, c1, c2, c3])) w
    have hz : s3 < a.tmps.size := sz _ (by simp)
    refine ⟨hI.fr.put (by simp) _, fun h => ?_, fun h => ?_, hI.dn, i1, i2, j1, j2, hT, ?_, ?_, ?_, ?_⟩
    · rw [slot_ne hz m3]; exact hI.v1 h
    · rw [slot_eq hz]
    · rw [slot_ne hz l3]; exact hA1
    · rw [slot_ne hz (Ne.symm k4)]; exact hA2
    · rw [slot_ne hz l3, slot_ne hz (Ne.symm k5)]; exact hB1
    · rw [slot_ne hz (Ne.symm k4), slot_ne hz (Ne.symm k6)]; exact hB2
  · simp [twoOps] at ho
    subst ho
    rw [if_pos (by rfl)]
    refine .inl ?_
    have hv : a.tmps.getD s3 undef = .agg #[c0, c1, c2, c3] := hI.v3 (ha ⟨2, .data⟩ (by simp) rfl)
    have hv' : a.tmps[s3]?.getD undef = .agg #[c0, c1, c2, c3] := by rw [← Array.getD_eq_getD_getElem?]; exact hv
    have hz : s4 < a.tmps.size := sz _ (by simp)
    have hLb : L 7 = false := by
      cases hq : L 7 with
      | false => rfl
      | true => have := (hI.dn.2 hq).1; rw [hL] at this; cases this
    simp only [go_sem, hcg, Oper.upon_enter]
    rw [show (#[] ++ Array.map a.eval #[Operand.tmp s3] ++ #[]) = #[.agg #[c0, c1, c2, c3]] from by simp [Act.eval, hv']]
    refine (hg [j1, j2, i1, i2] w hT.p).mono ?_
    rintro e w' ⟨A, c, rfl, ho, hb⟩
    show TwoInv _ _ _ _ _ _ _ _ _ _ _ _ (upd L 3) (a.put (some s4) (.agg (y.cells A c))) w'
    unfold Ans at hA2
    rw [hL, if_neg (by simp)] at hA2
    subst hA2
    have hT2 := hT.step (i := 3) rfl (Turn.ofNone (y := Item.row (.slice A y.value.length c) y.value) hb (owns_less ho (Nat.zero_le _)) (fun k hk => (ho.lt hk).1))
    refine ⟨hI.fr.put (by simp) _, fun h => ?_, fun h => ?_, ⟨fun h => ?_, fun h => ?_⟩, _, _, _, _, hT2, ?_, ?_, ?_, ?_⟩
    · rw [slot_ne hz m4]; exact hI.v1 h
    · rw [slot_ne hz k4]; exact hI.v3 h
    · exact hI.dn.1 h
    · have : L 7 = true := h; rw [hLb] at this; cases this
    · rw [slot_ne hz l4]; exact hA1
    · unfold Ans; exact ⟨A, c, by rw [slot_eq hz], rfl⟩
    · rw [slot_ne hz l4, slot_ne hz (Ne.symm q5)]; exact hB1
    · rw [slot_ne hz (Ne.symm q6)]; exact (box_no (show upd L 3 7 = false from hLb)).2 ((box_no hLb).1 hB2)
  · simp [twoOps] at ho
    subst ho
    rw [if_pos (by rfl)]
    refine .inl ?_
    have hz : d1 < a.tmps.size := sz _ (by simp)
    have hLb : L 6 = false := by
      cases hq : L 6 with
      | false => rfl
      | true => have := (hI.dn.1 hq).2; rw [hL] at this; cases this
    simp [go_sem]
    show TwoInv _ _ _ _ _ _ _ _ _ _ _ _ (upd L 4) (a.put (some d1) (.pointer (some ⟨w.heap.size, 0, none⟩))) (w.alloc (.cells zeroE 25))
    unfold Box at hB1
    rw [hLb, hL, if_neg (by simp), if_neg (by simp)] at hB1
    subst hB1
    have hT2 := hT.step (i := 0) rfl (Turn.ofNone (y := Item.blk w.heap.size 25 zeroE) ((Below.refl _ _).alloc (Nat.le_refl _) (.cells zeroE 25)) (Blk.new w 25 zeroE) (fun k hk => by cases hk; exact Nat.le_refl _))
    refine ⟨hI.fr.put (by simp) _, fun h => ?_, fun h => ?_, ⟨fun h => ?_, fun h => ?_⟩, _, _, _, _, hT2, ?_, ?_, ?_, ?_⟩
    · rw [slot_ne hz m5]; exact hI.v1 h
    · rw [slot_ne hz k5]; exact hI.v3 h
    · have : L 6 = true := h; rw [hLb] at this; cases this
    · exact hI.dn.2 h
    · rw [slot_ne hz l5]; exact hA1
    · rw [slot_ne hz q5]; exact hA2
    · refine (box_no (show upd L 4 6 = false from hLb)).2 ?_; rw [if_pos (show upd L 4 4 = true from rfl)]; exact ⟨_, slot_eq hz, rfl⟩
    · rw [slot_ne hz q5, slot_ne hz (Ne.symm r6)]; exact hB2
  · simp [twoOps] at ho
    subst ho
    rw [if_pos (by rfl)]
    refine .inl ?_
    have hz : d2 < a.tmps.size := sz _ (by simp)
    have hLb : L 7 = false := by
      cases hq : L 7 with
      | false => rfl
      | true => have := (hI.dn.2 hq).2; rw [hL] at this; cases this
    simp [go_sem]
    show TwoInv _ _ _ _ _ _ _ _ _ _ _ _ (upd L 5) (a.put (some d2) (.pointer (some ⟨w.heap.size, 0, none⟩))) (w.alloc (.cells zeroE 25))
    unfold Box at hB2
    rw [hLb, hL, if_neg (by simp), if_neg (by simp)] at hB2
    subst hB2
    have hT2 := hT.step (i := 1) rfl (Turn.ofNone (y := Item.blk w.heap.size 25 zeroE) ((Below.refl _ _).alloc (Nat.le_refl _) (.cells zeroE 25)) (Blk.new w 25 zeroE) (fun k hk => by cases hk; exact Nat.le_refl _))
    refine ⟨hI.fr.put (by simp) _, fun h => ?_, fun h => ?_, ⟨fun h => ?_, fun h => ?_⟩, _, _, _, _, hT2, ?_, ?_, ?_, ?_⟩
    · rw [slot_ne hz m6]; exact hI.v1 h
    · rw [slot_ne hz k6]; exact hI.v3 h
    · exact hI.dn.1 h
    · have : L 7 = true := h; rw [hLb] at this; cases this
    · rw [slot_ne hz l6]; exact hA1
    · rw [slot_ne hz q6]; exact hA2
    · rw [slot_ne hz l6, slot_ne hz r6]; exact hB1
    · refine (box_no (show upd L 5 7 = false from hLb)).2 ?_; rw [if_pos (show upd L 5 5 = true from rfl)]; exact ⟨_, slot_eq hz, rfl⟩
  · simp [twoOps] at ho
    subst ho
    rw [if_pos (by rfl)]
    refine .inl ?_
    have hLa : L 1 = true := ha ⟨1, .data⟩ (by simp) rfl
    have hLc : L 4 = true := ha ⟨4, .data⟩ (by simp) rfl
    have hA0 := hA1
    unfold Ans at hA0
    rw [hLa, if_pos rfl] at hA0
    obtain ⟨A, c, hu, _⟩ := hA0
    unfold Box at hB1
    rw [hL, hLc, if_neg (by simp), if_pos rfl] at hB1
    obtain ⟨g, hud, rfl⟩ := hB1
    have hK : Blk w g 25 zeroE := hT.get (i := 0) rfl
    obtain ⟨k, s, n, key, p, d⟩ := x
    have hu' : a.tmps[s2]?.getD undef = .agg #[.int .i64 k, .int .i64 s, .int .i64 n, .string key, .slice A p.length c, .bool d] := by rw [← Array.getD_eq_getD_getElem?]; exact hu
    have hud' : a.tmps[d1]?.getD undef = .pointer (some ⟨g, 0, none⟩) := by rw [← Array.getD_eq_getD_getElem?]; exact hud
    have z0 := hK.cell 0
    have z1 := hK.cell 1
    have z2 := hK.cell 2
    have z3 := hK.cell 3
    have z4 := hK.cell 4
    have z5 := hK.cell 5
    have f0 := hK.frozen 0
    have f1 := hK.frozen 1
    have f2 := hK.frozen 2
    have f3 := hK.frozen 3
    have f4 := hK.frozen 4
    have f5 := hK.frozen 5
    simp [zeroE] at z0 z1 z2 z3 z4 z5
    simp [go_sem, hu', hud', z0, z1, z2, z3, z4, z5, f0, f1, f2, f3, f4, f5]
    show TwoInv a0 w0 M _ ⟨k, s, n, key, p, d⟩ y s1 s2 s3 s4 d1 d2 (upd L 6) a (set6 w g (.int .i64 k) (.int .i64 s) (.int .i64 n) (.string key) (.slice A p.length c) (.bool d))
    have hT2 := hT.step (i := 0) rfl (y := Item.blk g 25 (En.cells ⟨k, s, n, key, p, d⟩ A c)) ⟨Blk.put6 hK (.int .i64 k) (.int .i64 s) (.int .i64 n) (.string key) (.slice A p.length c) (.bool d), keeps_set6 _ _ _ _ _ _ _ _, fun k hk => .inl hk⟩
    refine ⟨hI.fr, hI.v1, hI.v3, ⟨fun h => ⟨hLa, hLc⟩, fun h => hI.dn.2 h⟩, _, _, _, _, hT2, hA1, hA2, ?_, ?_⟩
    · unfold Box; rw [if_pos (show upd L 6 6 = true from rfl)]; exact ⟨A, c, g, hu, hud, rfl⟩
    · exact hB2
  · simp [twoOps] at ho
    subst ho
    rw [if_pos (by rfl)]
    refine .inl ?_
    have hLa : L 3 = true := ha ⟨3, .data⟩ (by simp) rfl
    have hLc : L 5 = true := ha ⟨5, .data⟩ (by simp) rfl
    have hA0 := hA2
    unfold Ans at hA0
    rw [hLa, if_pos rfl] at hA0
    obtain ⟨A, c, hu, _⟩ := hA0
    unfold Box at hB2
    rw [hL, hLc, if_neg (by simp), if_pos rfl] at hB2
    obtain ⟨g, hud, rfl⟩ := hB2
    have hK : Blk w g 25 zeroE := hT.get (i := 1) rfl
    obtain ⟨k, s, n, key, p, d⟩ := y
    have hu' : a.tmps[s4]?.getD undef = .agg #[.int .i64 k, .int .i64 s, .int .i64 n, .string key, .slice A p.length c, .bool d] := by rw [← Array.getD_eq_getD_getElem?]; exact hu
    have hud' : a.tmps[d2]?.getD undef = .pointer (some ⟨g, 0, none⟩) := by rw [← Array.getD_eq_getD_getElem?]; exact hud
    have z0 := hK.cell 0
    have z1 := hK.cell 1
    have z2 := hK.cell 2
    have z3 := hK.cell 3
    have z4 := hK.cell 4
    have z5 := hK.cell 5
    have f0 := hK.frozen 0
    have f1 := hK.frozen 1
    have f2 := hK.frozen 2
    have f3 := hK.frozen 3
    have f4 := hK.frozen 4
    have f5 := hK.frozen 5
    simp [zeroE] at z0 z1 z2 z3 z4 z5
    simp [go_sem, hu', hud', z0, z1, z2, z3, z4, z5, f0, f1, f2, f3, f4, f5]
    show TwoInv a0 w0 M _ x ⟨k, s, n, key, p, d⟩ s1 s2 s3 s4 d1 d2 (upd L 7) a (set6 w g (.int .i64 k) (.int .i64 s) (.int .i64 n) (.string key) (.slice A p.length c) (.bool d))
    have hT2 := hT.step (i := 1) rfl (y := Item.blk g 25 (En.cells ⟨k, s, n, key, p, d⟩ A c)) ⟨Blk.put6 hK (.int .i64 k) (.int .i64 s) (.int .i64 n) (.string key) (.slice A p.length c) (.bool d), keeps_set6 _ _ _ _ _ _ _ _, fun k hk => .inl hk⟩
    refine ⟨hI.fr, hI.v1, hI.v3, ⟨fun h => hI.dn.1 h, fun h => ⟨hLa, hLc⟩⟩, _, _, _, _, hT2, hA1, hA2, ?_, ?_⟩
    · exact hB1
    · unfold Box; rw [if_pos (show upd L 7 7 = true from rfl)]; exact ⟨A, c, g, hu, hud, rfl⟩
  · omega
theorem two_region {id : Nat} {f g : FuncId} {s9 s1 s2 s3 s4 d1 d2 : Nat} {ps : String} {a0 : Act} {w0 w : World} {M : List Item} (x y : En) {g9 : Nat} {c0 c1 c2 c3 : Value} {Q : Exit → Act → World → Prop}
    (hS : [s9, s1, s2, s3, s4, d1, d2].Nodup) (hlt : ∀ s ∈ [s9, s1, s2, s3, s4, d1, d2], s < a0.tmps.size) (h9 : a0.tmps.getD s9 undef = .pointer (some ⟨g9, 0, none⟩)) (hM : Item.blk g9 43 #[c0, c1, c2, c3] ∈ M)
    (hcf : ∀ args w, (callFunc f args).run Try.prog w = .ok (.enter f args) w) (hcg : ∀ args w, (callFunc g args).run Try.prog w = .ok (.enter g args) w)
    (hf : ∀ N w, (Item.all (N ++ M)).P w → Calls Try.prog f #[.agg #[c0, c1, c2, c3]] w (GivesE w x)) (hg : ∀ N w, (Item.all (N ++ M)).P w → Calls Try.prog g #[.agg #[c0, c1, c2, c3]] w (GivesE w y))
    (hT : Turn (Item.all []) w0 (Item.all M) w)
    (hk : ∀ (a : Act) (w' : World) (A A' : Option Addr) (c c' g g' : Nat) (u1 u2 u3 u4 : Value), a = ⟨((((((a0.tmps.setIfInBounds s1 u1).setIfInBounds s2 u2).setIfInBounds s3 u3).setIfInBounds s4 u4).setIfInBounds d1 (.pointer (some ⟨g, 0, none⟩))).setIfInBounds d2 (.pointer (some ⟨g', 0, none⟩))), a0.defers⟩ →
      Turn (Item.all []) w0 (Item.all (Item.blk g 25 (x.cells A c) :: Item.blk g' 25 (y.cells A' c') :: Item.row (.slice A x.value.length c) x.value :: Item.row (.slice A' y.value.length c') y.value :: M)) w' → Q .normal a w') :
    (Code.region id (twoOps f g s9 s1 s2 s3 s4 d1 d2 ps) true).wp Try.prog Q a0 w := by
  refine region_inv (TwoInv a0 w0 M (.agg #[c0, c1, c2, c3]) x y s1 s2 s3 s4 d1 d2) (by kernel_rfl) (by simp [lexB, twoOps, List.range_succ]) ?_ (two_step hS hlt h9 hM hcf hcg hf hg) ?_
  · have hT' : Turn (Item.all []) w0 (Item.all M) w.drew := hT.go (Below.refl _ _).drew
    exact { fr := Fr.refl _ _, v1 := fun h => (by cases h), v3 := fun h => (by cases h), dn := ⟨fun h => (by cases h), fun h => (by cases h)⟩, it := ⟨_, _, _, _, hT'.nones.nones.nones.nones, rfl, rfl, rfl, rfl⟩ }
  · intro L a w' hL hI
    have h1 := hL 1 (by simp [twoOps])
    have h3 := hL 3 (by simp [twoOps])
    have h6 := hL 6 (by simp [twoOps])
    have h7 := hL 7 (by simp [twoOps])
    obtain ⟨i1, i2, j1, j2, hT, hA1, hA2, hB1, hB2⟩ := hI.it
    unfold Ans at hA1 hA2
    unfold Box at hB1 hB2
    rw [h1, if_pos rfl] at hA1
    rw [h3, if_pos rfl] at hA2
    rw [h6, if_pos rfl] at hB1
    rw [h7, if_pos rfl] at hB2
    obtain ⟨A, c, e1, rfl⟩ := hA1
    obtain ⟨A2, c2, e2, rfl⟩ := hA2
    obtain ⟨A3, c3, g3, e3, e4, rfl⟩ := hB1
    obtain ⟨A4, c4, g4, e5, e6, rfl⟩ := hB2
    obtain ⟨k, s, n, key, p, d⟩ := x
    obtain ⟨k', s', n', key', p', d'⟩ := y
    have e7 := e1.symm.trans e3
    simp only [En.cells, Value.agg.injEq, Array.mk.injEq, List.cons.injEq, Value.slice.injEq, true_and, and_true] at e7
    obtain ⟨rfl, rfl⟩ := e7
    have e8 := e2.symm.trans e5
    simp only [En.cells, Value.agg.injEq, Array.mk.injEq, List.cons.injEq, Value.slice.injEq, true_and, and_true] at e8
    obtain ⟨rfl, rfl⟩ := e8
    have hl := hI.fr.lit
    simp only [List.foldl_cons, List.foldl_nil, e4, e6] at hl
    exact hk a w' _ _ _ _ _ _ _ _ _ _ hl hT
end Go.Proofs.Ytnnladfndmdapaa
/- Log.Entries: the region of a round that adds an entry and its end: in whatever order. -/
namespace Go.Proofs.Ytnnladfndmdapaa
open Go.RowKit

def entsOps (ps : String) : Array Oper :=
  #[{ dst := some 50, op := .load 54 (.tmp 9), type := 54, pos := ps, after := #[], guard := none },
    { dst := some 51, op := .load 25 (.tmp 13), type := 25, pos := ps, after := #[], guard := none },
    { dst := some 52, op := .buildSlice 54 1 #[(0, .tmp 51)], type := 54, pos := ps, after := #[{ on := 1, ground := .data }], guard := none },
    { dst := some 53, op := .call { callee := .builtin .append, args := #[.tmp 50, .tmp 52], argTypes := #[54, 54] }, type := 54, pos := ps, after := #[{ on := 0, ground := .data }, { on := 2, ground := .data }], guard := none },
    { dst := some 54, op := .load 64 (.tmp 10), type := 64, pos := ps, after := #[], guard := none },
    { dst := some 55, op := .load 3 (.tmp 4), type := 3, pos := ps, after := #[], guard := none },
    { dst := some 56, op := .move (.tmp 11), type := 3, pos := ps, after := #[], guard := none },
    { dst := some 57, op := .binOp .add 3 (.tmp 55) (.tmp 56) 3, type := 3, pos := ps, after := #[{ on := 5, ground := .data }, { on := 6, ground := .data }], guard := none },
    { dst := some 58, op := .buildSlice 64 1 #[(0, .tmp 57)], type := 64, pos := ps, after := #[{ on := 7, ground := .data }], guard := none },
    { dst := some 59, op := .call { callee := .builtin .append, args := #[.tmp 54, .tmp 58], argTypes := #[64, 64] }, type := 64, pos := ps, after := #[{ on := 4, ground := .data }, { on := 8, ground := .data }, { on := 3, ground := .chain }], guard := none },
    { dst := none, op := .store 54 (.tmp 9) (.tmp 53), type := 0, pos := ps,
      after := #[{ on := 3, ground := .data }, { on := 9, ground := .chain }, { on := 0, ground := .phase }, { on := 1, ground := .phase }, { on := 2, ground := .phase }, { on := 3, ground := .phase }, { on := 4, ground := .textOnly .inlinedCapture }, { on := 5, ground := .textOnly .lateStores }, { on := 6, ground := .textOnly .lateStores }, { on := 7, ground := .textOnly .lateStores }, { on := 8, ground := .textOnly .inlinedCapture }, { on := 9, ground := .textOnly .lateStoresUnsure }], guard := none },
    { dst := none, op := .store 64 (.tmp 10) (.tmp 59), type := 0, pos := ps,
      after := #[{ on := 9, ground := .data }, { on := 10, ground := .chain }, { on := 0, ground := .phase }, { on := 1, ground := .phase }, { on := 2, ground := .phase }, { on := 3, ground := .phase }, { on := 4, ground := .phase }, { on := 5, ground := .phase }, { on := 6, ground := .phase }, { on := 7, ground := .phase }, { on := 8, ground := .phase }, { on := 9, ground := .phase }, { on := 10, ground := .phase }], guard := none }]
def entsSlots : List Nat := [50, 51, 52, 53, 54, 55, 56, 57, 58, 59]
theorem fresh_src {w : World} {g size : Nat} {e T : TypeId} {cs : Array Value} (h : Blk w g e cs) (ht : Try.prog.underlying T = some (.slice e)) (h1 : cs.toList.all (fun u => u.oneCell') = true) (h2 : 0 < size) (hs : cs.size = size) : Src Try.prog size T (.slice (some ⟨g, 0, none⟩) 1 1) 1 cs.toList w :=
  Reads.src (B := w.heap.size) (A := some ⟨g, 0, none⟩) ⟨by rw [Array.length_toList]; omega, fun _ => ⟨g, 0, rfl, h.lt, fun j u hu => by
    rw [Nat.zero_add]
    have := h.cell j
    rw [this, ← hu, Array.getElem?_toList]⟩⟩ ht 1 (fun u hu => List.all_eq_true.1 h1 u hu)
theorem upd_of {L : Nat → Bool} {i j : Nat} (h : L j = true) : upd L i j = true := by unfold upd; split <;> simp [h]
/-- A fresh slice of one element, or none yet. -/
def Fresh (b : Bool) (e : TypeId) (cs : Array Value) (u : Value) (i : Item) : Prop := if b then ∃ g, u = .slice (some ⟨g, 0, none⟩) 1 1 ∧ i = Item.blk g e cs else i = Item.none
/-- A row before and behind its append; its box before and behind its store. -/
structure RowSt (ap st : Bool) (g : Nat) (T e : TypeId) (size : Nat) (v u : Value) (n : Nat) (xs cs : List Value) (bx rw : Item) : Prop where
  r : if ap then rw = Item.rowT e size u (n + 1) (xs ++ cs) else rw = Item.rowT e size v n xs
  b : if st then bx = Item.blk g T #[u] else bx = Item.blk g T #[v]
structure EInv (a0 : Act) (x0 : Item) (w0 : World) (M : List Item) (g9 g10 : Nat) (v9 v10 : Value) (n : Nat) (xs9 xs10 : List Value) (cs : Array Value) (base at_ : Int) (L : Nat → Bool) (a : Act) (w : World) : Prop where
  fr : Fr entsSlots a0 a
  u50 : L 0 = true → a.tmps.getD 50 undef = v9
  u51 : L 1 = true → a.tmps.getD 51 undef = .agg cs
  u54 : L 4 = true → a.tmps.getD 54 undef = v10
  u55 : L 5 = true → a.tmps.getD 55 undef = .int .i64 base
  u56 : L 6 = true → a.tmps.getD 56 undef = .int .i64 at_
  u57 : L 7 = true → a.tmps.getD 57 undef = .int .i64 (base + at_)
  dn3 : L 3 = true → L 0 = true ∧ L 2 = true
  dn9 : L 9 = true → L 4 = true ∧ L 8 = true
  dn10 : L 10 = true → L 3 = true
  dn11 : L 11 = true → L 9 = true
  it : ∃ b9 b10 r9 r10 f1 f2, Turn x0 w0 (Item.all (b9 :: b10 :: r9 :: r10 :: f1 :: f2 :: M)) w ∧ Fresh (L 2) 25 cs (a.tmps.getD 52 undef) f1 ∧ Fresh (L 8) 3 #[.int .i64 (base + at_)] (a.tmps.getD 58 undef) f2 ∧
    RowSt (L 3) (L 10) g9 54 25 cs.size v9 (a.tmps.getD 53 undef) n xs9 cs.toList b9 r9 ∧ RowSt (L 9) (L 11) g10 64 3 1 v10 (a.tmps.getD 59 undef) n xs10 [.int .i64 (base + at_)] b10 r10
set_option maxRecDepth 100000 in
theorem ents_step {F : Fence} {N : Nat} {ps : String} {a0 : Act} {x0 : Item} {w0 : World} {M : List Item} {g9 g10 g4 g13 n : Nat} {v9 v10 : Value} {xs9 xs10 : List Value} {k s m : Int} {key : ByteArray} {A : Option Addr} {p : List UInt8} {c : Nat} {d : Bool} {base at_ : Int} {Q : Exit → Act → World → Prop}
    (hsz : a0.tmps.size = 62) (h9 : a0.tmps.getD 9 undef = .pointer (some ⟨g9, 0, none⟩)) (h10 : a0.tmps.getD 10 undef = .pointer (some ⟨g10, 0, none⟩)) (h4 : a0.tmps.getD 4 undef = .pointer (some ⟨g4, 0, none⟩)) (h13 : a0.tmps.getD 13 undef = .pointer (some ⟨g13, 0, none⟩))
    (h11 : a0.tmps.getD 11 undef = .int .i64 at_) (hM4 : Item.blk g4 3 #[.int .i64 base] ∈ M) (hM13 : Item.blk g13 25 #[.int .i64 k, .int .i64 s, .int .i64 m, .string key, .slice A p.length c, .bool d] ∈ M)
    (hb : -9223372036854775808 ≤ base + at_ ∧ base + at_ ≤ 9223372036854775807) (hn : (n + 1) * 72 ≤ 140737488355328) :
    ∀ (L : Nat → Bool) (a : Act) (w : World) (i : Nat) (o : Oper), (entsOps ps)[i]? = some o → L i = false → (∀ e ∈ o.after, Region.binds .any e = true → L e.on = true) →
      EInv a0 x0 w0 M g9 g10 v9 v10 n xs9 xs10 #[.int .i64 k, .int .i64 s, .int .i64 m, .string key, .slice A p.length c, .bool d] base at_ L a w →
      wpOpIn F N Try.prog (entsOps ps) Q i (EInv a0 x0 w0 M g9 g10 v9 v10 n xs9 xs10 #[.int .i64 k, .int .i64 s, .int .i64 m, .string key, .slice A p.length c, .bool d] base at_ (upd L i)) a w := by
  intro L a w i o ho hL ha hI
  have hi : i < 12 := (Array.getElem?_eq_some_iff.1 ho).1
  obtain ⟨b9, b10, r9, r10, f1, f2, hT, hF1, hF2, hR9, hR10⟩ := hI.it
  have e9 : a.tmps.getD 9 undef = .pointer (some ⟨g9, 0, none⟩) := by rw [hI.fr.g 9 (by decide)]; exact h9
  have e10 : a.tmps.getD 10 undef = .pointer (some ⟨g10, 0, none⟩) := by rw [hI.fr.g 10 (by decide)]; exact h10
  have e4 : a.tmps.getD 4 undef = .pointer (some ⟨g4, 0, none⟩) := by rw [hI.fr.g 4 (by decide)]; exact h4
  have e13 : a.tmps.getD 13 undef = .pointer (some ⟨g13, 0, none⟩) := by rw [hI.fr.g 13 (by decide)]; exact h13
  have e11 : a.tmps.getD 11 undef = .int .i64 at_ := by rw [hI.fr.g 11 (by decide)]; exact h11
  have hz : ∀ q, q < 62 → q < a.tmps.size := fun q hq => by rw [hI.fr.n, hsz]; exact hq
  unfold wpOpIn
  rw [ho]
  simp only
  rcases i with _ | _ | _ | _ | _ | _ | _ | _ | _ | _ | _ | _ | i
  · simp [entsOps] at ho
    subst ho
    rw [if_pos (by rfl)]
    have hLb : L 10 = false := by
      cases hq : L 10 with
      | false => rfl
      | true => have := (hI.dn3 (hI.dn10 hq)).1; rw [hL] at this; cases this
    have hB := hR9.b
    rw [hLb, if_neg (by simp)] at hB
    subst hB
    have y0 := (show Blk w g9 54 #[v9] from hT.get (i := 0) rfl).cell 0
    simp at y0
    refine ⟨by simp [Oper.about], ?_⟩
    rw [Oper.semAt_eq _ _ _ (by intro c hc; cases hc)]
    simp [go_sem, e9, y0]
    show EInv a0 x0 w0 M g9 g10 v9 v10 n xs9 xs10 _ base at_ (upd L 0) (a.put (some 50) v9) w
    exact { fr := hI.fr.put (by decide) _,
            u50 := fun _ => slot_eq (hz 50 (by decide)),
            u51 := fun h => by rw [slot_ne (hz 50 (by decide)) (by decide)]; exact hI.u51 h,
            u54 := fun h => by rw [slot_ne (hz 50 (by decide)) (by decide)]; exact hI.u54 h,
            u55 := fun h => by rw [slot_ne (hz 50 (by decide)) (by decide)]; exact hI.u55 h,
            u56 := fun h => by rw [slot_ne (hz 50 (by decide)) (by decide)]; exact hI.u56 h,
            u57 := fun h => by rw [slot_ne (hz 50 (by decide)) (by decide)]; exact hI.u57 h,
            dn3 := fun h => ⟨upd_of (hI.dn3 h).1, upd_of (hI.dn3 h).2⟩,
            dn9 := fun h => ⟨upd_of (hI.dn9 h).1, upd_of (hI.dn9 h).2⟩,
            dn10 := fun h => upd_of (hI.dn10 h),
            dn11 := fun h => upd_of (hI.dn11 h),
            it := ⟨_, _, _, _, _, _, hT, by rw [slot_ne (hz 50 (by decide)) (by decide)]; exact hF1, by rw [slot_ne (hz 50 (by decide)) (by decide)]; exact hF2, by rw [slot_ne (hz 50 (by decide)) (by decide)]; exact hR9, by rw [slot_ne (hz 50 (by decide)) (by decide)]; exact hR10⟩ }
  · simp [entsOps] at ho
    subst ho
    rw [if_pos (by rfl)]
    have K := (show Blk w g13 25 #[.int .i64 k, .int .i64 s, .int .i64 m, .string key, .slice A p.length c, .bool d] from Item.all_get hT.p (x := Item.blk g13 25 #[.int .i64 k, .int .i64 s, .int .i64 m, .string key, .slice A p.length c, .bool d]) (by simp [hM13]))
    have y0 := K.cell 0
    have y1 := K.cell 1
    have y2 := K.cell 2
    have y3 := K.cell 3
    have y4 := K.cell 4
    have y5 := K.cell 5
    simp at y0 y1 y2 y3 y4 y5
    refine ⟨by simp [Oper.about], ?_⟩
    rw [Oper.semAt_eq _ _ _ (by intro c hc; cases hc)]
    simp [go_sem, e13, y0, y1, y2, y3, y4, y5]
    show EInv a0 x0 w0 M g9 g10 v9 v10 n xs9 xs10 _ base at_ (upd L 1) (a.put (some 51) (.agg #[.int .i64 k, .int .i64 s, .int .i64 m, .string key, .slice A p.length c, .bool d])) w
    exact { fr := hI.fr.put (by decide) _,
            u50 := fun h => by rw [slot_ne (hz 51 (by decide)) (by decide)]; exact hI.u50 h,
            u51 := fun _ => slot_eq (hz 51 (by decide)),
            u54 := fun h => by rw [slot_ne (hz 51 (by decide)) (by decide)]; exact hI.u54 h,
            u55 := fun h => by rw [slot_ne (hz 51 (by decide)) (by decide)]; exact hI.u55 h,
            u56 := fun h => by rw [slot_ne (hz 51 (by decide)) (by decide)]; exact hI.u56 h,
            u57 := fun h => by rw [slot_ne (hz 51 (by decide)) (by decide)]; exact hI.u57 h,
            dn3 := fun h => ⟨upd_of (hI.dn3 h).1, upd_of (hI.dn3 h).2⟩,
            dn9 := fun h => ⟨upd_of (hI.dn9 h).1, upd_of (hI.dn9 h).2⟩,
            dn10 := fun h => upd_of (hI.dn10 h),
            dn11 := fun h => upd_of (hI.dn11 h),
            it := ⟨_, _, _, _, _, _, hT, by rw [slot_ne (hz 51 (by decide)) (by decide)]; exact hF1, by rw [slot_ne (hz 51 (by decide)) (by decide)]; exact hF2, by rw [slot_ne (hz 51 (by decide)) (by decide)]; exact hR9, by rw [slot_ne (hz 51 (by decide)) (by decide)]; exact hR10⟩ }
  · simp [entsOps] at ho
    subst ho
    rw [if_pos (by rfl)]
    have hv51 : a.tmps.getD 51 undef = .agg #[.int .i64 k, .int .i64 s, .int .i64 m, .string key, .slice A p.length c, .bool d] := hI.u51 (ha ⟨1, .data⟩ (by simp) rfl)
    have hv51' : a.tmps[51]?.getD undef = .agg #[.int .i64 k, .int .i64 s, .int .i64 m, .string key, .slice A p.length c, .bool d] := by rw [← Array.getD_eq_getD_getElem?]; exact hv51
    unfold Fresh at hF1
    rw [hL, if_neg (by simp)] at hF1
    subst hF1
    have hT2 := hT.step (i := 4) rfl (Turn.ofNone (y := Item.blk w.heap.size 25 #[.int .i64 k, .int .i64 s, .int .i64 m, .string key, .slice A p.length c, .bool d]) ((Below.refl _ _).alloc (Nat.le_refl _) (.cells #[.int .i64 k, .int .i64 s, .int .i64 m, .string key, .slice A p.length c, .bool d] 25)) (Blk.new w 25 #[.int .i64 k, .int .i64 s, .int .i64 m, .string key, .slice A p.length c, .bool d]) (fun k hk => by cases hk; exact Nat.le_refl _))
    refine ⟨by simp [Oper.about], ?_⟩
    rw [Oper.semAt_eq _ _ _ (by intro c hc; cases hc)]
    simp [go_sem, hv51']
    show EInv a0 x0 w0 M g9 g10 v9 v10 n xs9 xs10 _ base at_ (upd L 2) (a.put (some 52) (.slice (some ⟨w.heap.size, 0, none⟩) 1 1)) (w.alloc (.cells #[.int .i64 k, .int .i64 s, .int .i64 m, .string key, .slice A p.length c, .bool d] 25))
    exact { fr := hI.fr.put (by decide) _,
            u50 := fun h => by rw [slot_ne (hz 52 (by decide)) (by decide)]; exact hI.u50 h,
            u51 := fun h => by rw [slot_ne (hz 52 (by decide)) (by decide)]; exact hI.u51 h,
            u54 := fun h => by rw [slot_ne (hz 52 (by decide)) (by decide)]; exact hI.u54 h,
            u55 := fun h => by rw [slot_ne (hz 52 (by decide)) (by decide)]; exact hI.u55 h,
            u56 := fun h => by rw [slot_ne (hz 52 (by decide)) (by decide)]; exact hI.u56 h,
            u57 := fun h => by rw [slot_ne (hz 52 (by decide)) (by decide)]; exact hI.u57 h,
            dn3 := fun h => ⟨upd_of (hI.dn3 h).1, upd_of (hI.dn3 h).2⟩,
            dn9 := fun h => ⟨upd_of (hI.dn9 h).1, upd_of (hI.dn9 h).2⟩,
            dn10 := fun h => upd_of (hI.dn10 h),
            dn11 := fun h => upd_of (hI.dn11 h),
            it := ⟨_, _, _, _, _, _, hT2, by unfold Fresh; rw [if_pos (show upd L 2 2 = true from rfl)]; exact ⟨_, slot_eq (hz 52 (by decide)), rfl⟩, by rw [slot_ne (hz 52 (by decide)) (by decide)]; exact hF2, by rw [slot_ne (hz 52 (by decide)) (by decide)]; exact hR9, by rw [slot_ne (hz 52 (by decide)) (by decide)]; exact hR10⟩ }
  · simp [entsOps] at ho
    subst ho
    rw [if_pos (by rfl)]
    have hLb : L 10 = false := by
      cases hq : L 10 with
      | false => rfl
      | true => have := hI.dn10 hq; rw [hL] at this; cases this
    have hLp : L 2 = true := ha ⟨2, .data⟩ (by simp) rfl
    have hLo : L 0 = true := ha ⟨0, .data⟩ (by simp) rfl
    have hv : a.tmps.getD 50 undef = v9 := hI.u50 hLo
    have hF := hF1
    unfold Fresh at hF
    rw [hLp, if_pos rfl] at hF
    obtain ⟨gf, huf, rfl⟩ := hF
    have hr := hR9.r
    rw [hL, if_neg (by simp)] at hr
    subst hr
    have hb0 := hR9.b
    rw [hLb, if_neg (by simp)] at hb0
    subst hb0
    have hown : w.ownsRow 0 25 6 v9 n xs9 := hT.get (i := 2) rfl
    have hK : Blk w gf 25 #[.int .i64 k, .int .i64 s, .int .i64 m, .string key, .slice A p.length c, .bool d] := hT.get (i := 4) rfl
    refine wpIn_append_any rfl 0 (e := 25) (z := (.agg zeroE)) (size := 6) (bytes := 72) (by kernel_rfl) (by kernel_rfl) (by kernel_rfl) (by decide) (by decide) (v := v9) (n := n) (xs := xs9) (by simpa [Act.eval] using hv) hown (x := .slice (some ⟨gf, 0, none⟩) 1 1) (m := 1) (news := (#[.int .i64 k, .int .i64 s, .int .i64 m, .string key, .slice A p.length c, .bool d] : Array Value).toList) (by simpa [Act.eval] using huf) (fresh_src hK (by kernel_rfl) rfl (by decide) rfl) (by omega) (Nat.zero_le _) ?_
    intro v' w' ho hg hf
    have hT2 := hT.step (i := 2) rfl (Turn.rowT (v := v9) (n := n) (xs := xs9) ho hg hf)
    exact { fr := hI.fr.put (by decide) _,
            u50 := fun h => by rw [slot_ne (hz 53 (by decide)) (by decide)]; exact hI.u50 h,
            u51 := fun h => by rw [slot_ne (hz 53 (by decide)) (by decide)]; exact hI.u51 h,
            u54 := fun h => by rw [slot_ne (hz 53 (by decide)) (by decide)]; exact hI.u54 h,
            u55 := fun h => by rw [slot_ne (hz 53 (by decide)) (by decide)]; exact hI.u55 h,
            u56 := fun h => by rw [slot_ne (hz 53 (by decide)) (by decide)]; exact hI.u56 h,
            u57 := fun h => by rw [slot_ne (hz 53 (by decide)) (by decide)]; exact hI.u57 h,
            dn3 := fun _ => ⟨upd_of hLo, upd_of hLp⟩,
            dn9 := fun h => ⟨upd_of (hI.dn9 h).1, upd_of (hI.dn9 h).2⟩,
            dn10 := fun h => upd_of (hI.dn10 h),
            dn11 := fun h => upd_of (hI.dn11 h),
            it := ⟨_, _, _, _, _, _, hT2, by rw [slot_ne (hz 53 (by decide)) (by decide)]; exact hF1, by rw [slot_ne (hz 53 (by decide)) (by decide)]; exact hF2, ⟨by rw [if_pos (show upd L 3 3 = true from rfl), slot_eq (hz 53 (by decide))], by rw [if_neg (show ¬ upd L 3 10 = true from by rw [show upd L 3 10 = L 10 from rfl, hLb]; simp)]⟩, by rw [slot_ne (hz 53 (by decide)) (by decide)]; exact hR10⟩ }
  · simp [entsOps] at ho
    subst ho
    rw [if_pos (by rfl)]
    have hLb : L 11 = false := by
      cases hq : L 11 with
      | false => rfl
      | true => have := (hI.dn9 (hI.dn11 hq)).1; rw [hL] at this; cases this
    have hB := hR10.b
    rw [hLb, if_neg (by simp)] at hB
    subst hB
    have y0 := (show Blk w g10 64 #[v10] from hT.get (i := 1) rfl).cell 0
    simp at y0
    refine ⟨by simp [Oper.about], ?_⟩
    rw [Oper.semAt_eq _ _ _ (by intro c hc; cases hc)]
    simp [go_sem, e10, y0]
    show EInv a0 x0 w0 M g9 g10 v9 v10 n xs9 xs10 _ base at_ (upd L 4) (a.put (some 54) v10) w
    exact { fr := hI.fr.put (by decide) _,
            u50 := fun h => by rw [slot_ne (hz 54 (by decide)) (by decide)]; exact hI.u50 h,
            u51 := fun h => by rw [slot_ne (hz 54 (by decide)) (by decide)]; exact hI.u51 h,
            u54 := fun _ => slot_eq (hz 54 (by decide)),
            u55 := fun h => by rw [slot_ne (hz 54 (by decide)) (by decide)]; exact hI.u55 h,
            u56 := fun h => by rw [slot_ne (hz 54 (by decide)) (by decide)]; exact hI.u56 h,
            u57 := fun h => by rw [slot_ne (hz 54 (by decide)) (by decide)]; exact hI.u57 h,
            dn3 := fun h => ⟨upd_of (hI.dn3 h).1, upd_of (hI.dn3 h).2⟩,
            dn9 := fun h => ⟨upd_of (hI.dn9 h).1, upd_of (hI.dn9 h).2⟩,
            dn10 := fun h => upd_of (hI.dn10 h),
            dn11 := fun h => upd_of (hI.dn11 h),
            it := ⟨_, _, _, _, _, _, hT, by rw [slot_ne (hz 54 (by decide)) (by decide)]; exact hF1, by rw [slot_ne (hz 54 (by decide)) (by decide)]; exact hF2, by rw [slot_ne (hz 54 (by decide)) (by decide)]; exact hR9, by rw [slot_ne (hz 54 (by decide)) (by decide)]; exact hR10⟩ }
  · simp [entsOps] at ho
    subst ho
    rw [if_pos (by rfl)]
    have y0 := (show Blk w g4 3 #[.int .i64 base] from Item.all_get hT.p (x := Item.blk g4 3 #[.int .i64 base]) (by simp [hM4])).cell 0
    simp at y0
    refine ⟨by simp [Oper.about], ?_⟩
    rw [Oper.semAt_eq _ _ _ (by intro c hc; cases hc)]
    simp [go_sem, e4, y0]
    show EInv a0 x0 w0 M g9 g10 v9 v10 n xs9 xs10 _ base at_ (upd L 5) (a.put (some 55) (.int .i64 base)) w
    exact { fr := hI.fr.put (by decide) _,
            u50 := fun h => by rw [slot_ne (hz 55 (by decide)) (by decide)]; exact hI.u50 h,
            u51 := fun h => by rw [slot_ne (hz 55 (by decide)) (by decide)]; exact hI.u51 h,
            u54 := fun h => by rw [slot_ne (hz 55 (by decide)) (by decide)]; exact hI.u54 h,
            u55 := fun _ => slot_eq (hz 55 (by decide)),
            u56 := fun h => by rw [slot_ne (hz 55 (by decide)) (by decide)]; exact hI.u56 h,
            u57 := fun h => by rw [slot_ne (hz 55 (by decide)) (by decide)]; exact hI.u57 h,
            dn3 := fun h => ⟨upd_of (hI.dn3 h).1, upd_of (hI.dn3 h).2⟩,
            dn9 := fun h => ⟨upd_of (hI.dn9 h).1, upd_of (hI.dn9 h).2⟩,
            dn10 := fun h => upd_of (hI.dn10 h),
            dn11 := fun h => upd_of (hI.dn11 h),
            it := ⟨_, _, _, _, _, _, hT, by rw [slot_ne (hz 55 (by decide)) (by decide)]; exact hF1, by rw [slot_ne (hz 55 (by decide)) (by decide)]; exact hF2, by rw [slot_ne (hz 55 (by decide)) (by decide)]; exact hR9, by rw [slot_ne (hz 55 (by decide)) (by decide)]; exact hR10⟩ }
  · simp [entsOps] at ho
    subst ho
    rw [if_pos (by rfl)]
    refine ⟨by simp [Oper.about], ?_⟩
    rw [Oper.semAt_eq _ _ _ (by intro c hc; cases hc)]
    simp [go_sem, e11]
    show EInv a0 x0 w0 M g9 g10 v9 v10 n xs9 xs10 _ base at_ (upd L 6) (a.put (some 56) (.int .i64 at_)) w
    exact { fr := hI.fr.put (by decide) _,
            u50 := fun h => by rw [slot_ne (hz 56 (by decide)) (by decide)]; exact hI.u50 h,
            u51 := fun h => by rw [slot_ne (hz 56 (by decide)) (by decide)]; exact hI.u51 h,
            u54 := fun h => by rw [slot_ne (hz 56 (by decide)) (by decide)]; exact hI.u54 h,
            u55 := fun h => by rw [slot_ne (hz 56 (by decide)) (by decide)]; exact hI.u55 h,
            u56 := fun _ => slot_eq (hz 56 (by decide)),
            u57 := fun h => by rw [slot_ne (hz 56 (by decide)) (by decide)]; exact hI.u57 h,
            dn3 := fun h => ⟨upd_of (hI.dn3 h).1, upd_of (hI.dn3 h).2⟩,
            dn9 := fun h => ⟨upd_of (hI.dn9 h).1, upd_of (hI.dn9 h).2⟩,
            dn10 := fun h => upd_of (hI.dn10 h),
            dn11 := fun h => upd_of (hI.dn11 h),
            it := ⟨_, _, _, _, _, _, hT, by rw [slot_ne (hz 56 (by decide)) (by decide)]; exact hF1, by rw [slot_ne (hz 56 (by decide)) (by decide)]; exact hF2, by rw [slot_ne (hz 56 (by decide)) (by decide)]; exact hR9, by rw [slot_ne (hz 56 (by decide)) (by decide)]; exact hR10⟩ }
  · simp [entsOps] at ho
    subst ho
    rw [if_pos (by rfl)]
    have hv55 : a.tmps.getD 55 undef = .int .i64 base := hI.u55 (ha ⟨5, .data⟩ (by simp) rfl)
    have hv55' : a.tmps[55]?.getD undef = .int .i64 base := by rw [← Array.getD_eq_getD_getElem?]; exact hv55
    have hv56 : a.tmps.getD 56 undef = .int .i64 at_ := hI.u56 (ha ⟨6, .data⟩ (by simp) rfl)
    have hv56' : a.tmps[56]?.getD undef = .int .i64 at_ := by rw [← Array.getD_eq_getD_getElem?]; exact hv56
    have hw : IntKind.i64.wrap (base + at_) = base + at_ := by rw [IntKind.wrap_i64]; omega
    refine ⟨by simp [Oper.about], ?_⟩
    rw [Oper.semAt_eq _ _ _ (by intro c hc; cases hc)]
    simp [go_sem, hv55', hv56', hw]
    show EInv a0 x0 w0 M g9 g10 v9 v10 n xs9 xs10 _ base at_ (upd L 7) (a.put (some 57) (.int .i64 (base + at_))) w
    exact { fr := hI.fr.put (by decide) _,
            u50 := fun h => by rw [slot_ne (hz 57 (by decide)) (by decide)]; exact hI.u50 h,
            u51 := fun h => by rw [slot_ne (hz 57 (by decide)) (by decide)]; exact hI.u51 h,
            u54 := fun h => by rw [slot_ne (hz 57 (by decide)) (by decide)]; exact hI.u54 h,
            u55 := fun h => by rw [slot_ne (hz 57 (by decide)) (by decide)]; exact hI.u55 h,
            u56 := fun h => by rw [slot_ne (hz 57 (by decide)) (by decide)]; exact hI.u56 h,
            u57 := fun _ => slot_eq (hz 57 (by decide)),
            dn3 := fun h => ⟨upd_of (hI.dn3 h).1, upd_of (hI.dn3 h).2⟩,
            dn9 := fun h => ⟨upd_of (hI.dn9 h).1, upd_of (hI.dn9 h).2⟩,
            dn10 := fun h => upd_of (hI.dn10 h),
            dn11 := fun h => upd_of (hI.dn11 h),
            it := ⟨_, _, _, _, _, _, hT, by rw [slot_ne (hz 57 (by decide)) (by decide)]; exact hF1, by rw [slot_ne (hz 57 (by decide)) (by decide)]; exact hF2, by rw [slot_ne (hz 57 (by decide)) (by decide)]; exact hR9, by rw [slot_ne (hz 57 (by decide)) (by decide)]; exact hR10⟩ }
  · simp [entsOps] at ho
    subst ho
    rw [if_pos (by rfl)]
    have hv57 : a.tmps.getD 57 undef = .int .i64 (base + at_) := hI.u57 (ha ⟨7, .data⟩ (by simp) rfl)
    have hv57' : a.tmps[57]?.getD undef = .int .i64 (base + at_) := by rw [← Array.getD_eq_getD_getElem?]; exact hv57
    unfold Fresh at hF2
    rw [hL, if_neg (by simp)] at hF2
    subst hF2
    have hT2 := hT.step (i := 5) rfl (Turn.ofNone (y := Item.blk w.heap.size 3 #[.int .i64 (base + at_)]) ((Below.refl _ _).alloc (Nat.le_refl _) (.cells #[.int .i64 (base + at_)] 3)) (Blk.new w 3 #[.int .i64 (base + at_)]) (fun k hk => by cases hk; exact Nat.le_refl _))
    refine ⟨by simp [Oper.about], ?_⟩
    rw [Oper.semAt_eq _ _ _ (by intro c hc; cases hc)]
    simp [go_sem, hv57']
    show EInv a0 x0 w0 M g9 g10 v9 v10 n xs9 xs10 _ base at_ (upd L 8) (a.put (some 58) (.slice (some ⟨w.heap.size, 0, none⟩) 1 1)) (w.alloc (.cells #[.int .i64 (base + at_)] 3))
    exact { fr := hI.fr.put (by decide) _,
            u50 := fun h => by rw [slot_ne (hz 58 (by decide)) (by decide)]; exact hI.u50 h,
            u51 := fun h => by rw [slot_ne (hz 58 (by decide)) (by decide)]; exact hI.u51 h,
            u54 := fun h => by rw [slot_ne (hz 58 (by decide)) (by decide)]; exact hI.u54 h,
            u55 := fun h => by rw [slot_ne (hz 58 (by decide)) (by decide)]; exact hI.u55 h,
            u56 := fun h => by rw [slot_ne (hz 58 (by decide)) (by decide)]; exact hI.u56 h,
            u57 := fun h => by rw [slot_ne (hz 58 (by decide)) (by decide)]; exact hI.u57 h,
            dn3 := fun h => ⟨upd_of (hI.dn3 h).1, upd_of (hI.dn3 h).2⟩,
            dn9 := fun h => ⟨upd_of (hI.dn9 h).1, upd_of (hI.dn9 h).2⟩,
            dn10 := fun h => upd_of (hI.dn10 h),
            dn11 := fun h => upd_of (hI.dn11 h),
            it := ⟨_, _, _, _, _, _, hT2, by rw [slot_ne (hz 58 (by decide)) (by decide)]; exact hF1, by unfold Fresh; rw [if_pos (show upd L 8 8 = true from rfl)]; exact ⟨_, slot_eq (hz 58 (by decide)), rfl⟩, by rw [slot_ne (hz 58 (by decide)) (by decide)]; exact hR9, by rw [slot_ne (hz 58 (by decide)) (by decide)]; exact hR10⟩ }
  · simp [entsOps] at ho
    subst ho
    rw [if_pos (by rfl)]
    have hLb : L 11 = false := by
      cases hq : L 11 with
      | false => rfl
      | true => have := hI.dn11 hq; rw [hL] at this; cases this
    have hLp : L 8 = true := ha ⟨8, .data⟩ (by simp) rfl
    have hLo : L 4 = true := ha ⟨4, .data⟩ (by simp) rfl
    have hv : a.tmps.getD 54 undef = v10 := hI.u54 hLo
    have hF := hF2
    unfold Fresh at hF
    rw [hLp, if_pos rfl] at hF
    obtain ⟨gf, huf, rfl⟩ := hF
    have hr := hR10.r
    rw [hL, if_neg (by simp)] at hr
    subst hr
    have hb0 := hR10.b
    rw [hLb, if_neg (by simp)] at hb0
    subst hb0
    have hown : w.ownsRow 0 3 1 v10 n xs10 := hT.get (i := 3) rfl
    have hK : Blk w gf 3 #[.int .i64 (base + at_)] := hT.get (i := 5) rfl
    refine wpIn_append_any rfl 0 (e := 3) (z := (.int .i64 0)) (size := 1) (bytes := 8) (by kernel_rfl) (by kernel_rfl) (by kernel_rfl) (by decide) (by decide) (v := v10) (n := n) (xs := xs10) (by simpa [Act.eval] using hv) hown (x := .slice (some ⟨gf, 0, none⟩) 1 1) (m := 1) (news := (#[.int .i64 (base + at_)] : Array Value).toList) (by simpa [Act.eval] using huf) (fresh_src hK (by kernel_rfl) rfl (by decide) rfl) (by omega) (Nat.zero_le _) ?_
    intro v' w' ho hg hf
    have hT2 := hT.step (i := 3) rfl (Turn.rowT (v := v10) (n := n) (xs := xs10) ho hg hf)
    exact { fr := hI.fr.put (by decide) _,
            u50 := fun h => by rw [slot_ne (hz 59 (by decide)) (by decide)]; exact hI.u50 h,
            u51 := fun h => by rw [slot_ne (hz 59 (by decide)) (by decide)]; exact hI.u51 h,
            u54 := fun h => by rw [slot_ne (hz 59 (by decide)) (by decide)]; exact hI.u54 h,
            u55 := fun h => by rw [slot_ne (hz 59 (by decide)) (by decide)]; exact hI.u55 h,
            u56 := fun h => by rw [slot_ne (hz 59 (by decide)) (by decide)]; exact hI.u56 h,
            u57 := fun h => by rw [slot_ne (hz 59 (by decide)) (by decide)]; exact hI.u57 h,
            dn3 := fun h => ⟨upd_of (hI.dn3 h).1, upd_of (hI.dn3 h).2⟩,
            dn9 := fun _ => ⟨upd_of hLo, upd_of hLp⟩,
            dn10 := fun h => upd_of (hI.dn10 h),
            dn11 := fun h => upd_of (hI.dn11 h),
            it := ⟨_, _, _, _, _, _, hT2, by rw [slot_ne (hz 59 (by decide)) (by decide)]; exact hF1, by rw [slot_ne (hz 59 (by decide)) (by decide)]; exact hF2, by rw [slot_ne (hz 59 (by decide)) (by decide)]; exact hR9, ⟨by rw [if_pos (show upd L 9 9 = true from rfl), slot_eq (hz 59 (by decide))], by rw [if_neg (show ¬ upd L 9 11 = true from by rw [show upd L 9 11 = L 11 from rfl, hLb]; simp)]⟩⟩ }
  · simp [entsOps] at ho
    subst ho
    rw [if_pos (by rfl)]
    have hLp : L 3 = true := ha ⟨3, .data⟩ (by simp) rfl
    have hB := hR9.b
    rw [hL, if_neg (by simp)] at hB
    subst hB
    have hr := hR9.r
    rw [hLp, if_pos rfl] at hr
    obtain ⟨u, hu⟩ : ∃ u, u = a.tmps.getD 53 undef := ⟨_, rfl⟩
    rw [← hu] at hr
    subst hr
    obtain ⟨A1, c1, hA1, _, _⟩ := own_slice (hT.get (i := 2) rfl)
    subst hA1
    have hu' : a.tmps[53]?.getD undef = .slice A1 (n + 1) c1 := by rw [← Array.getD_eq_getD_getElem?]; exact hu.symm
    have K := (show Blk w g9 54 #[v9] from hT.get (i := 0) rfl)
    have y0 := K.cell 0
    have f0 := K.frozen 0
    simp at y0
    have hT2 := hT.step (i := 0) rfl (y := Item.blk g9 54 #[.slice A1 (n + 1) c1]) (Turn.cell K 0 (.slice A1 (n + 1) c1))
    refine ⟨by simp [Oper.about], ?_⟩
    rw [Oper.semAt_eq _ _ _ (by intro c hc; cases hc)]
    simp [go_sem, e9, hu', y0, f0]
    show EInv a0 x0 w0 M g9 g10 v9 v10 n xs9 xs10 _ base at_ (upd L 10) a (w.setCell ⟨g9, 0, none⟩ (.slice A1 (n + 1) c1))
    exact { fr := hI.fr,
            u50 := hI.u50,
            u51 := hI.u51,
            u54 := hI.u54,
            u55 := hI.u55,
            u56 := hI.u56,
            u57 := hI.u57,
            dn3 := fun h => ⟨upd_of (hI.dn3 h).1, upd_of (hI.dn3 h).2⟩,
            dn9 := fun h => ⟨upd_of (hI.dn9 h).1, upd_of (hI.dn9 h).2⟩,
            dn10 := fun _ => upd_of hLp,
            dn11 := fun h => upd_of (hI.dn11 h),
            it := ⟨_, _, _, _, _, _, hT2, hF1, hF2, ⟨by rw [if_pos (show upd L 10 3 = true from hLp), ← hu], by rw [if_pos (show upd L 10 10 = true from rfl), ← hu]⟩, hR10⟩ }
  · simp [entsOps] at ho
    subst ho
    rw [if_pos (by rfl)]
    have hLp : L 9 = true := ha ⟨9, .data⟩ (by simp) rfl
    have hB := hR10.b
    rw [hL, if_neg (by simp)] at hB
    subst hB
    have hr := hR10.r
    rw [hLp, if_pos rfl] at hr
    obtain ⟨u, hu⟩ : ∃ u, u = a.tmps.getD 59 undef := ⟨_, rfl⟩
    rw [← hu] at hr
    subst hr
    obtain ⟨A1, c1, hA1, _, _⟩ := own_slice (hT.get (i := 3) rfl)
    subst hA1
    have hu' : a.tmps[59]?.getD undef = .slice A1 (n + 1) c1 := by rw [← Array.getD_eq_getD_getElem?]; exact hu.symm
    have K := (show Blk w g10 64 #[v10] from hT.get (i := 1) rfl)
    have y0 := K.cell 0
    have f0 := K.frozen 0
    simp at y0
    have hT2 := hT.step (i := 1) rfl (y := Item.blk g10 64 #[.slice A1 (n + 1) c1]) (Turn.cell K 0 (.slice A1 (n + 1) c1))
    refine ⟨by simp [Oper.about], ?_⟩
    rw [Oper.semAt_eq _ _ _ (by intro c hc; cases hc)]
    simp [go_sem, e10, hu', y0, f0]
    show EInv a0 x0 w0 M g9 g10 v9 v10 n xs9 xs10 _ base at_ (upd L 11) a (w.setCell ⟨g10, 0, none⟩ (.slice A1 (n + 1) c1))
    exact { fr := hI.fr,
            u50 := hI.u50,
            u51 := hI.u51,
            u54 := hI.u54,
            u55 := hI.u55,
            u56 := hI.u56,
            u57 := hI.u57,
            dn3 := fun h => ⟨upd_of (hI.dn3 h).1, upd_of (hI.dn3 h).2⟩,
            dn9 := fun h => ⟨upd_of (hI.dn9 h).1, upd_of (hI.dn9 h).2⟩,
            dn10 := fun h => upd_of (hI.dn10 h),
            dn11 := fun _ => upd_of hLp,
            it := ⟨_, _, _, _, _, _, hT2, hF1, hF2, hR9, ⟨by rw [if_pos (show upd L 11 9 = true from hLp), ← hu], by rw [if_pos (show upd L 11 11 = true from rfl), ← hu]⟩⟩ }
  · omega
theorem Turn.sub {x : Item} {w w' : World} {L M : List Item} (h : Turn x w (Item.all L) w') (hs : M.Sublist L) : Turn x w (Item.all M) w' :=
  ⟨⟨fun i hi => h.p.1 i (hs.subset hi), h.p.2.sublist hs⟩, h.k, fun k ⟨i, hi, hk⟩ => h.o k ⟨i, hs.subset hi, hk⟩⟩
theorem ents_region {F : Fence} {N id : Nat} {ps : String} {a0 : Act} {x0 : Item} {w0 w : World} {M : List Item} {g9 g10 g4 g13 n : Nat} {v9 v10 : Value} {xs9 xs10 : List Value} {k s m : Int} {key : ByteArray} {A : Option Addr} {p : List UInt8} {c : Nat} {d : Bool} {base at_ : Int} {Q : Exit → Act → World → Prop}
    (hsz : a0.tmps.size = 62) (h9 : a0.tmps.getD 9 undef = .pointer (some ⟨g9, 0, none⟩)) (h10 : a0.tmps.getD 10 undef = .pointer (some ⟨g10, 0, none⟩)) (h4 : a0.tmps.getD 4 undef = .pointer (some ⟨g4, 0, none⟩)) (h13 : a0.tmps.getD 13 undef = .pointer (some ⟨g13, 0, none⟩))
    (h11 : a0.tmps.getD 11 undef = .int .i64 at_) (hM4 : Item.blk g4 3 #[.int .i64 base] ∈ M) (hM13 : Item.blk g13 25 #[.int .i64 k, .int .i64 s, .int .i64 m, .string key, .slice A p.length c, .bool d] ∈ M)
    (hb : -9223372036854775808 ≤ base + at_ ∧ base + at_ ≤ 9223372036854775807) (hn : (n + 1) * 72 ≤ 140737488355328)
    (hT : Turn x0 w0 (Item.all (Item.blk g9 54 #[v9] :: Item.blk g10 64 #[v10] :: Item.rowT 25 6 v9 n xs9 :: Item.rowT 3 1 v10 n xs10 :: M)) w)
    (hk : ∀ (a : Act) (w' : World) (A9 A10 : Option Addr) (c9 c10 : Nat), Fr entsSlots a0 a →
      Turn x0 w0 (Item.all (Item.blk g9 54 #[.slice A9 (n + 1) c9] :: Item.blk g10 64 #[.slice A10 (n + 1) c10] :: Item.rowT 25 6 (.slice A9 (n + 1) c9) (n + 1) (xs9 ++ [.int .i64 k, .int .i64 s, .int .i64 m, .string key, .slice A p.length c, .bool d]) :: Item.rowT 3 1 (.slice A10 (n + 1) c10) (n + 1) (xs10 ++ [.int .i64 (base + at_)]) :: M)) w' → Q .normal a w') :
    (Code.region id (entsOps ps) true).wpIn F N Try.prog Q a0 w := by
  refine regionIn_inv (EInv a0 x0 w0 M g9 g10 v9 v10 n xs9 xs10 #[.int .i64 k, .int .i64 s, .int .i64 m, .string key, .slice A p.length c, .bool d] base at_) (by kernel_rfl) (by simp [lexB, entsOps, List.range_succ]) ?_ (ents_step hsz h9 h10 h4 h13 h11 hM4 hM13 hb hn) ?_
  · have h0 : Turn x0 w0 (Item.all (Item.blk g9 54 #[v9] :: Item.blk g10 64 #[v10] :: Item.rowT 25 6 v9 n xs9 :: Item.rowT 3 1 v10 n xs10 :: Item.none :: Item.none :: M)) w.drew := by
      have h1 := ((hT.go (Below.refl _ _).drew).nones.nones)
      exact h1.permR (List.perm_append_comm (l₁ := [Item.none, Item.none]) (l₂ := [Item.blk g9 54 #[v9], Item.blk g10 64 #[v10], Item.rowT 25 6 v9 n xs9, Item.rowT 3 1 v10 n xs10]) |>.append_right M)
    exact { fr := Fr.refl _ _, u50 := fun h => (by cases h), u51 := fun h => (by cases h), u54 := fun h => (by cases h), u55 := fun h => (by cases h), u56 := fun h => (by cases h), u57 := fun h => (by cases h),
            dn3 := fun h => (by cases h), dn9 := fun h => (by cases h), dn10 := fun h => (by cases h), dn11 := fun h => (by cases h), it := ⟨_, _, _, _, _, _, h0, rfl, rfl, ⟨rfl, rfl⟩, ⟨rfl, rfl⟩⟩ }
  · intro L a w' hL hI
    have q3 := hL 3 (by simp [entsOps])
    have q9 := hL 9 (by simp [entsOps])
    have q10 := hL 10 (by simp [entsOps])
    have q11 := hL 11 (by simp [entsOps])
    obtain ⟨b9, b10, r9, r10, f1, f2, hT, _, _, hR9, hR10⟩ := hI.it
    have e1 := hR9.r
    have e2 := hR9.b
    have e3 := hR10.r
    have e4 := hR10.b
    rw [q3, if_pos rfl] at e1
    rw [q10, if_pos rfl] at e2
    rw [q9, if_pos rfl] at e3
    rw [q11, if_pos rfl] at e4
    subst e1; subst e2; subst e3; subst e4
    obtain ⟨A9, c9, hA9, _, _⟩ := own_slice (hT.get (i := 2) rfl)
    obtain ⟨A10, c10, hA10, _, _⟩ := own_slice (hT.get (i := 3) rfl)
    rw [hA9, hA10] at hT
    exact hk a w' A9 A10 c9 c10 hI.fr (hT.sub (by
      refine List.Sublist.cons_cons _ (List.Sublist.cons_cons _ (List.Sublist.cons_cons _ (List.Sublist.cons_cons _ (List.Sublist.cons _ (List.Sublist.cons _ (List.Sublist.refl _)))))))) 
end Go.Proofs.Ytnnladfndmdapaa
/- Pieces whose blocks are all cells: they stay when a range over a function writes its own records. -/
namespace Go.Proofs.Ytnnladfndmdapaa
open Go.RowKit

def Item.solid (x : Item) : Prop := ∀ W k, x.P W → x.own k → ∃ o : Obj, W.heap[k]? = some o ∧ o.isCells = true
theorem solid_blk {g : Nat} {t : TypeId} {cs : Array Value} : (Item.blk g t cs).solid := fun W k h e => by
  cases e
  have h' : Blk W g t cs := h
  exact ⟨_, h', rfl⟩
theorem solid_row {v : Value} {l : List UInt8} : (Item.row v l).solid := fun W k h e => by
  have h' : BOwns W 0 v l := h
  have e' : v.ownBlock = some k := e
  rcases h'.2 with ⟨h2, _⟩ | ⟨g, cap, cur, hv, hg, hh, r⟩
  · rw [h2] at e'; cases e'
  · rw [hv] at e'; injection e' with e'; subst e'; exact ⟨_, hh, rfl⟩
theorem solid_rowT {e : TypeId} {size n : Nat} {v : Value} {xs : List Value} : (Item.rowT e size v n xs).solid := fun W k h e' => by
  have h' : W.ownsRow 0 e size v n xs := h
  have e' : v.ownBlock = some k := e'
  rcases h'.2 with ⟨h2, _⟩ | ⟨g, cap, cur, hv, hg, hh, r⟩
  · rw [h2] at e'; cases e'
  · rw [hv] at e'; injection e' with e'; subst e'; exact ⟨_, hh, rfl⟩
theorem solid_none : Item.none.solid := fun _ _ _ h => h.elim
theorem solid_all {L : List Item} (h : ∀ i ∈ L, i.solid) : (Item.all L).solid := fun W k hp ⟨i, hi, ho⟩ => h i hi W k (hp.1 i hi) ho
theorem Turn.kept {w0 W W' : World} {x0 x : Item} {row : Option Nat} (h : Turn x0 w0 x W) (hs : x.solid) (hg : W.grownBy W' row) (hr : ∀ r, row = some r → w0.heap.size ≤ r ∧ ∃ o : Obj, W.heap[r]? = some o ∧ o.isCells = false) : Turn x0 w0 x W' := by
  have hk := Keeps.of_grown hg
  refine ⟨Item.far h.p hk fun k ho e => ?_, h.k.trans hk (fun i hi => ?_), h.o⟩
  · obtain ⟨_, o, h1, h2⟩ := hr k e.symm
    obtain ⟨o', h3, h4⟩ := hs _ k h.p ho
    rw [h1] at h3; injection h3 with h3; subst h3; rw [h2] at h4; cases h4
  · exact .inr (hr i hi.symm).1
theorem Turn.keepsFrom {W W' : World} {x y : Item} {B : Nat} (h : Turn x W y W') (hp : x.P W) (hs : x.solid) : KeepsFrom B W W' := by
  refine ⟨h.k.size, fun k o _ hk ho => ?_⟩
  have hlt : k < W.heap.size := (Array.getElem?_eq_some_iff.1 hk).1
  by_cases hx : x.own k
  · obtain ⟨o', h3, h4⟩ := hs _ k hp hx
    rw [hk] at h3; injection h3 with h3; subst h3; rw [ho] at h4; cases h4
  · exact (h.k.block k hlt hx).trans hk
end Go.Proofs.Ytnnladfndmdapaa
