/- A region of two calls that answer entries, each stored in a box of its own: in whatever order. -/
import Derived.Test.YtnnladfndmdapaaInv
import Derived.Test.YtnnladfndmdapaaEnt6
namespace Go.Proofs.Ytnnladfndmdapaa
open Go.RowKit

def twoOps (f g : FuncId) (s9 s1 s2 s3 s4 d1 d2 : Nat) (ps : String) : Array Oper :=
  #[{ dst := some s1, op := .load 43 (.tmp s9), type := 43, pos := ps, after := #[], guard := none },
    { dst := some s2, op := .call { callee := .value (.func f), args := #[.tmp s1], argTypes := #[43] }, type := 25, pos := ps, after := #[{ on := 0, ground := .data }], guard := none },
    { dst := some s3, op := .load 43 (.tmp s9), type := 43, pos := ps, after := #[], guard := none },
    { dst := some s4, op := .call { callee := .value (.func g), args := #[.tmp s3], argTypes := #[43] }, type := 25, pos := ps, after := #[{ on := 2, ground := .data }, { on := 1, ground := .chain }], guard := none },
    { dst := some d1, op := .alloc 25, type := 0, pos := ps, after := #[], guard := none },
    { dst := some d2, op := .alloc 25, type := 0, pos := ps, after := #[], guard := none },
    { dst := none, op := .store 25 (.tmp d1) (.tmp s2), type := 0, pos := ps,
      after := #[{ on := 4, ground := .data }, { on := 1, ground := .data }, { on := 3, ground := .chain }, { on := 0, ground := .phase }, { on := 1, ground := .phase }, { on := 2, ground := .textOnly .lateStores }, { on := 3, ground := .textOnly .lateStoresUnsure }, { on := 4, ground := .phase }, { on := 5, ground := .phase }], guard := none },
    { dst := none, op := .store 25 (.tmp d2) (.tmp s4), type := 0, pos := ps,
      after := #[{ on := 5, ground := .data }, { on := 3, ground := .data }, { on := 6, ground := .chain }, { on := 0, ground := .phase }, { on := 1, ground := .phase }, { on := 2, ground := .phase }, { on := 3, ground := .phase }, { on := 4, ground := .phase }, { on := 5, ground := .phase }, { on := 6, ground := .phase }], guard := none }]
def zeroE : Array Value := #[.int .i64 0, .int .i64 0, .int .i64 0, .string ⟨#[]⟩, .slice none 0 0, .bool false]
/-- A call's answer: nothing yet, or the entry, its bytes a row. -/
def Ans (b : Bool) (x : En) (u : Value) (i : Item) : Prop := if b then ∃ A c, u = .agg (x.cells A c) ∧ i = Item.row (.slice A x.value.length c) x.value else i = Item.none
/-- A box: none yet, an empty one, the answer's. -/
def Box (b s : Bool) (x : En) (u ud : Value) (i : Item) : Prop :=
  if s then ∃ A c g, u = .agg (x.cells A c) ∧ ud = .pointer (some ⟨g, 0, none⟩) ∧ i = Item.blk g 25 (x.cells A c)
  else if b then ∃ g, ud = .pointer (some ⟨g, 0, none⟩) ∧ i = Item.blk g 25 zeroE else i = Item.none
structure TwoInv (a0 : Act) (w0 : World) (M : List Item) (V : Value) (x y : En) (s1 s2 s3 s4 d1 d2 : Nat) (L : Nat → Bool) (a : Act) (w : World) : Prop where
  fr : Fr [s1, s2, s3, s4, d1, d2] a0 a
  v1 : L 0 = true → a.tmps.getD s1 undef = V
  v3 : L 2 = true → a.tmps.getD s3 undef = V
  dn : (L 6 = true → L 1 = true ∧ L 4 = true) ∧ (L 7 = true → L 3 = true ∧ L 5 = true)
  it : ∃ i1 i2 j1 j2, Turn (Item.all []) w0 (Item.all (j1 :: j2 :: i1 :: i2 :: M)) w ∧ Ans (L 1) x (a.tmps.getD s2 undef) i1 ∧ Ans (L 3) y (a.tmps.getD s4 undef) i2 ∧
    Box (L 4) (L 6) x (a.tmps.getD s2 undef) (a.tmps.getD d1 undef) j1 ∧ Box (L 5) (L 7) y (a.tmps.getD s4 undef) (a.tmps.getD d2 undef) j2
theorem box_no {b t : Bool} {x : En} {u ud : Value} {i : Item} (h : t = false) : Box b t x u ud i ↔ (if b then ∃ g, ud = .pointer (some ⟨g, 0, none⟩) ∧ i = Item.blk g 25 zeroE else i = Item.none) := by
  subst h; unfold Box; rw [if_neg (by simp)]
theorem put_ne {a : Act} {d k : Nat} {v : Value} (h : d < a.tmps.size) (hk : k ≠ d) : (a.put (some d) v).tmps.getD k undef = a.tmps.getD k undef := by rw [put_get h, if_neg hk]
theorem put_eq {a : Act} {d : Nat} {v : Value} (h : d < a.tmps.size) : (a.put (some d) v).tmps.getD d undef = v := by rw [put_get h, if_pos rfl]
set_option maxRecDepth 100000 in
theorem two_step {f g : FuncId} {s9 s1 s2 s3 s4 d1 d2 : Nat} {ps : String} {a0 : Act} {w0 : World} {M : List Item} {x y : En} {g9 : Nat} {c0 c1 c2 c3 : Value} {Q : Exit → Act → World → Prop}
    (hS : [s9, s1, s2, s3, s4, d1, d2].Nodup) (hlt : ∀ s ∈ [s9, s1, s2, s3, s4, d1, d2], s < a0.tmps.size) (h9 : a0.tmps.getD s9 undef = .pointer (some ⟨g9, 0, none⟩)) (hM : Item.blk g9 43 #[c0, c1, c2, c3] ∈ M)
    (hcf : ∀ args w, (callFunc f args).run Try.prog w = .ok (.enter f args) w) (hcg : ∀ args w, (callFunc g args).run Try.prog w = .ok (.enter g args) w)
    (hf : ∀ N w, (Item.all (N ++ M)).P w → Calls Try.prog f #[.agg #[c0, c1, c2, c3]] w (GivesE w x)) (hg : ∀ N w, (Item.all (N ++ M)).P w → Calls Try.prog g #[.agg #[c0, c1, c2, c3]] w (GivesE w y)) :
    ∀ (L : Nat → Bool) (a : Act) (w : World) (i : Nat) (o : Oper), (twoOps f g s9 s1 s2 s3 s4 d1 d2 ps)[i]? = some o → L i = false → (∀ e ∈ o.after, Region.binds .any e = true → L e.on = true) → TwoInv a0 w0 M (.agg #[c0, c1, c2, c3]) x y s1 s2 s3 s4 d1 d2 L a w →
      wpOp Try.prog (twoOps f g s9 s1 s2 s3 s4 d1 d2 ps) Q i (TwoInv a0 w0 M (.agg #[c0, c1, c2, c3]) x y s1 s2 s3 s4 d1 d2 (upd L i)) a w := by
  intro L a w i o ho hL ha hI
  have hi : i < 8 := (Array.getElem?_eq_some_iff.1 ho).1
  simp only [List.nodup_cons, List.mem_cons, List.not_mem_nil, not_or, or_false, List.nodup_nil, not_false_eq_true, and_true] at hS
  obtain ⟨⟨n1, n2, n3, n4, n5, n6⟩, ⟨m2, m3, m4, m5, m6⟩, ⟨l3, l4, l5, l6⟩, ⟨k4, k5, k6⟩, ⟨q5, q6⟩, r6⟩ := hS
  have e9 : a.tmps.getD s9 undef = .pointer (some ⟨g9, 0, none⟩) := by rw [hI.fr.g s9 (by simp [n1, n2, n3, n4, n5, n6])]; exact h9
  obtain ⟨i1, i2, j1, j2, hT, hA1, hA2, hB1, hB2⟩ := hI.it
  have hb9 : Blk w g9 43 #[c0, c1, c2, c3] := Item.all_get hT.p (x := Item.blk g9 43 #[c0, c1, c2, c3]) (by simp [hM])
  have y0 := hb9.cell 0
  have y1 := hb9.cell 1
  have y2 := hb9.cell 2
  have y3 := hb9.cell 3
  simp at y0 y1 y2 y3
  have sz : ∀ s ∈ [s9, s1, s2, s3, s4, d1, d2], s < a.tmps.size := fun s hs => by rw [hI.fr.n]; exact hlt s hs
  unfold wpOp
  rw [ho]
  simp only
  rcases i with _ | _ | _ | _ | _ | _ | _ | _ | i
  · simp [twoOps] at ho
    subst ho
    rw [if_pos (by rfl)]
    refine .inl ?_
    simp [go_sem, e9, y0, y1, y2, y3]
    show TwoInv _ _ _ _ _ _ _ _ _ _ _ _ (upd L 0) (a.put (some s1) (.agg #[c0, c1, c2, c3])) w
    have hz : s1 < a.tmps.size := sz _ (by simp)
    refine ⟨hI.fr.put (by simp) _, fun h => ?_, fun h => ?_, hI.dn, i1, i2, j1, j2, hT, ?_, ?_, ?_, ?_⟩
    · rw [put_eq hz]
    · rw [put_ne hz (Ne.symm m3)]; exact hI.v3 h
    · rw [put_ne hz (Ne.symm m2)]; exact hA1
    · rw [put_ne hz (Ne.symm m4)]; exact hA2
    · rw [put_ne hz (Ne.symm m2), put_ne hz (Ne.symm m5)]; exact hB1
    · rw [put_ne hz (Ne.symm m4), put_ne hz (Ne.symm m6)]; exact hB2
  · simp [twoOps] at ho
    subst ho
    rw [if_pos (by rfl)]
    refine .inl ?_
    have hv : a.tmps.getD s1 undef = .agg #[c0, c1, c2, c3] := hI.v1 (ha ⟨0, .data⟩ (by simp) rfl)
    have hv' : a.tmps[s1]?.getD undef = .agg #[c0, c1, c2, c3] := by rw [← Array.getD_eq_getD_getElem?]; exact hv
    have hz : s2 < a.tmps.size := sz _ (by simp)
    have hLb : L 6 = false := by
      cases hq : L 6 with
      | false => rfl
      | true => have := (hI.dn.1 hq).1; rw [hL] at this; cases this
    simp only [go_sem, hcf, Oper.upon_enter]
    rw [show (#[] ++ Array.map a.eval #[Operand.tmp s1] ++ #[]) = #[.agg #[c0, c1, c2, c3]] from by simp [Act.eval, hv']]
    refine (hf [j1, j2, i1, i2] w hT.p).mono ?_
    rintro e w' ⟨A, c, rfl, ho, hb⟩
    show TwoInv _ _ _ _ _ _ _ _ _ _ _ _ (upd L 1) (a.put (some s2) (.agg (x.cells A c))) w'
    unfold Ans at hA1
    rw [hL, if_neg (by simp)] at hA1
    subst hA1
    have hT2 := hT.step (i := 2) rfl (Turn.ofNone (y := Item.row (.slice A x.value.length c) x.value) hb (owns_less ho (Nat.zero_le _)) (fun k hk => (ho.lt hk).1))
    refine ⟨hI.fr.put (by simp) _, fun h => ?_, fun h => ?_, ⟨fun h => ?_, fun h => ?_⟩, _, _, _, _, hT2, ?_, ?_, ?_, ?_⟩
    · rw [put_ne hz m2]; exact hI.v1 h
    · rw [put_ne hz (Ne.symm l3)]; exact hI.v3 h
    · have : L 6 = true := h; rw [hLb] at this; cases this
    · exact hI.dn.2 h
    · unfold Ans; exact ⟨A, c, by rw [put_eq hz], rfl⟩
    · rw [put_ne hz (Ne.symm l4)]; exact hA2
    · rw [put_ne hz (Ne.symm l5)]; exact (box_no (show upd L 1 6 = false from hLb)).2 ((box_no hLb).1 hB1)
    · rw [put_ne hz (Ne.symm l4), put_ne hz (Ne.symm l6)]; exact hB2
  · simp [twoOps] at ho
    subst ho
    rw [if_pos (by rfl)]
    refine .inl ?_
    simp [go_sem, e9, y0, y1, y2, y3]
    show TwoInv _ _ _ _ _ _ _ _ _ _ _ _ (upd L 2) (a.put (some s3) (.agg #[c0, c1, c2, c3])) w
    have hz : s3 < a.tmps.size := sz _ (by simp)
    refine ⟨hI.fr.put (by simp) _, fun h => ?_, fun h => ?_, hI.dn, i1, i2, j1, j2, hT, ?_, ?_, ?_, ?_⟩
    · rw [put_ne hz m3]; exact hI.v1 h
    · rw [put_eq hz]
    · rw [put_ne hz l3]; exact hA1
    · rw [put_ne hz (Ne.symm k4)]; exact hA2
    · rw [put_ne hz l3, put_ne hz (Ne.symm k5)]; exact hB1
    · rw [put_ne hz (Ne.symm k4), put_ne hz (Ne.symm k6)]; exact hB2
  · simp [twoOps] at ho
    subst ho
    rw [if_pos (by rfl)]
    refine .inl ?_
    have hv : a.tmps.getD s3 undef = .agg #[c0, c1, c2, c3] := hI.v3 (ha ⟨2, .data⟩ (by simp) rfl)
    have hv' : a.tmps[s3]?.getD undef = .agg #[c0, c1, c2, c3] := by rw [← Array.getD_eq_getD_getElem?]; exact hv
    have hz : s4 < a.tmps.size := sz _ (by simp)
    have hLb : L 7 = false := by
      cases hq : L 7 with
      | false => rfl
      | true => have := (hI.dn.2 hq).1; rw [hL] at this; cases this
    simp only [go_sem, hcg, Oper.upon_enter]
    rw [show (#[] ++ Array.map a.eval #[Operand.tmp s3] ++ #[]) = #[.agg #[c0, c1, c2, c3]] from by simp [Act.eval, hv']]
    refine (hg [j1, j2, i1, i2] w hT.p).mono ?_
    rintro e w' ⟨A, c, rfl, ho, hb⟩
    show TwoInv _ _ _ _ _ _ _ _ _ _ _ _ (upd L 3) (a.put (some s4) (.agg (y.cells A c))) w'
    unfold Ans at hA2
    rw [hL, if_neg (by simp)] at hA2
    subst hA2
    have hT2 := hT.step (i := 3) rfl (Turn.ofNone (y := Item.row (.slice A y.value.length c) y.value) hb (owns_less ho (Nat.zero_le _)) (fun k hk => (ho.lt hk).1))
    refine ⟨hI.fr.put (by simp) _, fun h => ?_, fun h => ?_, ⟨fun h => ?_, fun h => ?_⟩, _, _, _, _, hT2, ?_, ?_, ?_, ?_⟩
    · rw [put_ne hz m4]; exact hI.v1 h
    · rw [put_ne hz k4]; exact hI.v3 h
    · exact hI.dn.1 h
    · have : L 7 = true := h; rw [hLb] at this; cases this
    · rw [put_ne hz l4]; exact hA1
    · unfold Ans; exact ⟨A, c, by rw [put_eq hz], rfl⟩
    · rw [put_ne hz l4, put_ne hz (Ne.symm q5)]; exact hB1
    · rw [put_ne hz (Ne.symm q6)]; exact (box_no (show upd L 3 7 = false from hLb)).2 ((box_no hLb).1 hB2)
  · simp [twoOps] at ho
    subst ho
    rw [if_pos (by rfl)]
    refine .inl ?_
    have hz : d1 < a.tmps.size := sz _ (by simp)
    have hLb : L 6 = false := by
      cases hq : L 6 with
      | false => rfl
      | true => have := (hI.dn.1 hq).2; rw [hL] at this; cases this
    simp [go_sem]
    show TwoInv _ _ _ _ _ _ _ _ _ _ _ _ (upd L 4) (a.put (some d1) (.pointer (some ⟨w.heap.size, 0, none⟩))) (w.alloc (.cells zeroE 25))
    unfold Box at hB1
    rw [hLb, hL, if_neg (by simp), if_neg (by simp)] at hB1
    subst hB1
    have hT2 := hT.step (i := 0) rfl (Turn.ofNone (y := Item.blk w.heap.size 25 zeroE) ((Below.refl _ _).alloc (Nat.le_refl _) (.cells zeroE 25)) (Blk.new w 25 zeroE) (fun k hk => by cases hk; exact Nat.le_refl _))
    refine ⟨hI.fr.put (by simp) _, fun h => ?_, fun h => ?_, ⟨fun h => ?_, fun h => ?_⟩, _, _, _, _, hT2, ?_, ?_, ?_, ?_⟩
    · rw [put_ne hz m5]; exact hI.v1 h
    · rw [put_ne hz k5]; exact hI.v3 h
    · have : L 6 = true := h; rw [hLb] at this; cases this
    · exact hI.dn.2 h
    · rw [put_ne hz l5]; exact hA1
    · rw [put_ne hz q5]; exact hA2
    · refine (box_no (show upd L 4 6 = false from hLb)).2 ?_; rw [if_pos (show upd L 4 4 = true from rfl)]; exact ⟨_, put_eq hz, rfl⟩
    · rw [put_ne hz q5, put_ne hz (Ne.symm r6)]; exact hB2
  · simp [twoOps] at ho
    subst ho
    rw [if_pos (by rfl)]
    refine .inl ?_
    have hz : d2 < a.tmps.size := sz _ (by simp)
    have hLb : L 7 = false := by
      cases hq : L 7 with
      | false => rfl
      | true => have := (hI.dn.2 hq).2; rw [hL] at this; cases this
    simp [go_sem]
    show TwoInv _ _ _ _ _ _ _ _ _ _ _ _ (upd L 5) (a.put (some d2) (.pointer (some ⟨w.heap.size, 0, none⟩))) (w.alloc (.cells zeroE 25))
    unfold Box at hB2
    rw [hLb, hL, if_neg (by simp), if_neg (by simp)] at hB2
    subst hB2
    have hT2 := hT.step (i := 1) rfl (Turn.ofNone (y := Item.blk w.heap.size 25 zeroE) ((Below.refl _ _).alloc (Nat.le_refl _) (.cells zeroE 25)) (Blk.new w 25 zeroE) (fun k hk => by cases hk; exact Nat.le_refl _))
    refine ⟨hI.fr.put (by simp) _, fun h => ?_, fun h => ?_, ⟨fun h => ?_, fun h => ?_⟩, _, _, _, _, hT2, ?_, ?_, ?_, ?_⟩
    · rw [put_ne hz m6]; exact hI.v1 h
    · rw [put_ne hz k6]; exact hI.v3 h
    · exact hI.dn.1 h
    · have : L 7 = true := h; rw [hLb] at this; cases this
    · rw [put_ne hz l6]; exact hA1
    · rw [put_ne hz q6]; exact hA2
    · rw [put_ne hz l6, put_ne hz r6]; exact hB1
    · refine (box_no (show upd L 5 7 = false from hLb)).2 ?_; rw [if_pos (show upd L 5 5 = true from rfl)]; exact ⟨_, put_eq hz, rfl⟩
  · simp [twoOps] at ho
    subst ho
    rw [if_pos (by rfl)]
    refine .inl ?_
    have hLa : L 1 = true := ha ⟨1, .data⟩ (by simp) rfl
    have hLc : L 4 = true := ha ⟨4, .data⟩ (by simp) rfl
    have hA0 := hA1
    unfold Ans at hA0
    rw [hLa, if_pos rfl] at hA0
    obtain ⟨A, c, hu, _⟩ := hA0
    unfold Box at hB1
    rw [hL, hLc, if_neg (by simp), if_pos rfl] at hB1
    obtain ⟨g, hud, rfl⟩ := hB1
    have hK : Blk w g 25 zeroE := hT.get (i := 0) rfl
    obtain ⟨k, s, n, key, p, d⟩ := x
    have hu' : a.tmps[s2]?.getD undef = .agg #[.int .i64 k, .int .i64 s, .int .i64 n, .string key, .slice A p.length c, .bool d] := by rw [← Array.getD_eq_getD_getElem?]; exact hu
    have hud' : a.tmps[d1]?.getD undef = .pointer (some ⟨g, 0, none⟩) := by rw [← Array.getD_eq_getD_getElem?]; exact hud
    have z0 := hK.cell 0
    have z1 := hK.cell 1
    have z2 := hK.cell 2
    have z3 := hK.cell 3
    have z4 := hK.cell 4
    have z5 := hK.cell 5
    have f0 := hK.frozen 0
    have f1 := hK.frozen 1
    have f2 := hK.frozen 2
    have f3 := hK.frozen 3
    have f4 := hK.frozen 4
    have f5 := hK.frozen 5
    simp [zeroE] at z0 z1 z2 z3 z4 z5
    simp [go_sem, hu', hud', z0, z1, z2, z3, z4, z5, f0, f1, f2, f3, f4, f5]
    show TwoInv a0 w0 M _ ⟨k, s, n, key, p, d⟩ y s1 s2 s3 s4 d1 d2 (upd L 6) a (set6 w g (.int .i64 k) (.int .i64 s) (.int .i64 n) (.string key) (.slice A p.length c) (.bool d))
    have hT2 := hT.step (i := 0) rfl (y := Item.blk g 25 (En.cells ⟨k, s, n, key, p, d⟩ A c)) ⟨Blk.put6 hK (.int .i64 k) (.int .i64 s) (.int .i64 n) (.string key) (.slice A p.length c) (.bool d), keeps_set6 _ _ _ _ _ _ _ _, fun k hk => .inl hk⟩
    refine ⟨hI.fr, hI.v1, hI.v3, ⟨fun h => ⟨hLa, hLc⟩, fun h => hI.dn.2 h⟩, _, _, _, _, hT2, hA1, hA2, ?_, ?_⟩
    · unfold Box; rw [if_pos (show upd L 6 6 = true from rfl)]; exact ⟨A, c, g, hu, hud, rfl⟩
    · exact hB2
  · simp [twoOps] at ho
    subst ho
    rw [if_pos (by rfl)]
    refine .inl ?_
    have hLa : L 3 = true := ha ⟨3, .data⟩ (by simp) rfl
    have hLc : L 5 = true := ha ⟨5, .data⟩ (by simp) rfl
    have hA0 := hA2
    unfold Ans at hA0
    rw [hLa, if_pos rfl] at hA0
    obtain ⟨A, c, hu, _⟩ := hA0
    unfold Box at hB2
    rw [hL, hLc, if_neg (by simp), if_pos rfl] at hB2
    obtain ⟨g, hud, rfl⟩ := hB2
    have hK : Blk w g 25 zeroE := hT.get (i := 1) rfl
    obtain ⟨k, s, n, key, p, d⟩ := y
    have hu' : a.tmps[s4]?.getD undef = .agg #[.int .i64 k, .int .i64 s, .int .i64 n, .string key, .slice A p.length c, .bool d] := by rw [← Array.getD_eq_getD_getElem?]; exact hu
    have hud' : a.tmps[d2]?.getD undef = .pointer (some ⟨g, 0, none⟩) := by rw [← Array.getD_eq_getD_getElem?]; exact hud
    have z0 := hK.cell 0
    have z1 := hK.cell 1
    have z2 := hK.cell 2
    have z3 := hK.cell 3
    have z4 := hK.cell 4
    have z5 := hK.cell 5
    have f0 := hK.frozen 0
    have f1 := hK.frozen 1
    have f2 := hK.frozen 2
    have f3 := hK.frozen 3
    have f4 := hK.frozen 4
    have f5 := hK.frozen 5
    simp [zeroE] at z0 z1 z2 z3 z4 z5
    simp [go_sem, hu', hud', z0, z1, z2, z3, z4, z5, f0, f1, f2, f3, f4, f5]
    show TwoInv a0 w0 M _ x ⟨k, s, n, key, p, d⟩ s1 s2 s3 s4 d1 d2 (upd L 7) a (set6 w g (.int .i64 k) (.int .i64 s) (.int .i64 n) (.string key) (.slice A p.length c) (.bool d))
    have hT2 := hT.step (i := 1) rfl (y := Item.blk g 25 (En.cells ⟨k, s, n, key, p, d⟩ A c)) ⟨Blk.put6 hK (.int .i64 k) (.int .i64 s) (.int .i64 n) (.string key) (.slice A p.length c) (.bool d), keeps_set6 _ _ _ _ _ _ _ _, fun k hk => .inl hk⟩
    refine ⟨hI.fr, hI.v1, hI.v3, ⟨fun h => hI.dn.1 h, fun h => ⟨hLa, hLc⟩⟩, _, _, _, _, hT2, hA1, hA2, ?_, ?_⟩
    · exact hB1
    · unfold Box; rw [if_pos (show upd L 7 7 = true from rfl)]; exact ⟨A, c, g, hu, hud, rfl⟩
  · omega
theorem two_region {id : Nat} {f g : FuncId} {s9 s1 s2 s3 s4 d1 d2 : Nat} {ps : String} {a0 : Act} {w0 w : World} {M : List Item} (x y : En) {g9 : Nat} {c0 c1 c2 c3 : Value} {Q : Exit → Act → World → Prop}
    (hS : [s9, s1, s2, s3, s4, d1, d2].Nodup) (hlt : ∀ s ∈ [s9, s1, s2, s3, s4, d1, d2], s < a0.tmps.size) (h9 : a0.tmps.getD s9 undef = .pointer (some ⟨g9, 0, none⟩)) (hM : Item.blk g9 43 #[c0, c1, c2, c3] ∈ M)
    (hcf : ∀ args w, (callFunc f args).run Try.prog w = .ok (.enter f args) w) (hcg : ∀ args w, (callFunc g args).run Try.prog w = .ok (.enter g args) w)
    (hf : ∀ N w, (Item.all (N ++ M)).P w → Calls Try.prog f #[.agg #[c0, c1, c2, c3]] w (GivesE w x)) (hg : ∀ N w, (Item.all (N ++ M)).P w → Calls Try.prog g #[.agg #[c0, c1, c2, c3]] w (GivesE w y))
    (hT : Turn (Item.all []) w0 (Item.all M) w)
    (hk : ∀ (a : Act) (w' : World) (A A' : Option Addr) (c c' g g' : Nat) (u1 u2 u3 u4 : Value), a = ⟨((((((a0.tmps.setIfInBounds s1 u1).setIfInBounds s2 u2).setIfInBounds s3 u3).setIfInBounds s4 u4).setIfInBounds d1 (.pointer (some ⟨g, 0, none⟩))).setIfInBounds d2 (.pointer (some ⟨g', 0, none⟩))), a0.defers⟩ →
      Turn (Item.all []) w0 (Item.all (Item.blk g 25 (x.cells A c) :: Item.blk g' 25 (y.cells A' c') :: Item.row (.slice A x.value.length c) x.value :: Item.row (.slice A' y.value.length c') y.value :: M)) w' → Q .normal a w') :
    (Code.region id (twoOps f g s9 s1 s2 s3 s4 d1 d2 ps) true).wp Try.prog Q a0 w := by
  refine region_inv (TwoInv a0 w0 M (.agg #[c0, c1, c2, c3]) x y s1 s2 s3 s4 d1 d2) (by kernel_rfl) (by simp [lexB, twoOps, List.range_succ]) ?_ (two_step hS hlt h9 hM hcf hcg hf hg) ?_
  · have hT' : Turn (Item.all []) w0 (Item.all M) w.drew := hT.go (Below.refl _ _).drew
    exact { fr := Fr.refl _ _, v1 := fun h => (by cases h), v3 := fun h => (by cases h), dn := ⟨fun h => (by cases h), fun h => (by cases h)⟩, it := ⟨_, _, _, _, hT'.nones.nones.nones.nones, rfl, rfl, rfl, rfl⟩ }
  · intro L a w' hL hI
    have h1 := hL 1 (by simp [twoOps])
    have h3 := hL 3 (by simp [twoOps])
    have h6 := hL 6 (by simp [twoOps])
    have h7 := hL 7 (by simp [twoOps])
    obtain ⟨i1, i2, j1, j2, hT, hA1, hA2, hB1, hB2⟩ := hI.it
    unfold Ans at hA1 hA2
    unfold Box at hB1 hB2
    rw [h1, if_pos rfl] at hA1
    rw [h3, if_pos rfl] at hA2
    rw [h6, if_pos rfl] at hB1
    rw [h7, if_pos rfl] at hB2
    obtain ⟨A, c, e1, rfl⟩ := hA1
    obtain ⟨A2, c2, e2, rfl⟩ := hA2
    obtain ⟨A3, c3, g3, e3, e4, rfl⟩ := hB1
    obtain ⟨A4, c4, g4, e5, e6, rfl⟩ := hB2
    obtain ⟨k, s, n, key, p, d⟩ := x
    obtain ⟨k', s', n', key', p', d'⟩ := y
    have e7 := e1.symm.trans e3
    simp only [En.cells, Value.agg.injEq, Array.mk.injEq, List.cons.injEq, Value.slice.injEq, true_and, and_true] at e7
    obtain ⟨rfl, rfl⟩ := e7
    have e8 := e2.symm.trans e5
    simp only [En.cells, Value.agg.injEq, Array.mk.injEq, List.cons.injEq, Value.slice.injEq, true_and, and_true] at e8
    obtain ⟨rfl, rfl⟩ := e8
    have hl := hI.fr.lit
    simp only [List.foldl_cons, List.foldl_nil, e4, e6] at hl
    exact hk a w' _ _ _ _ _ _ _ _ _ _ hl hT
end Go.Proofs.Ytnnladfndmdapaa
