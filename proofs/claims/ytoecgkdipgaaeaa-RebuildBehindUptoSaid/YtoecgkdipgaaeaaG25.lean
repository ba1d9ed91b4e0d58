/- Contracts and plain laws that this claim leans on, laid together: Beh. -/
import Derived.Test.YtoecgkdipgaaeaaG24
set_option linter.all false
set_option linter.unusedVariables false
set_option linter.unusedSimpArgs false
set_option linter.unnecessarySimpa false
/- Rebuild: a commit behind whole groups, the plain law. -/
namespace Go.Proofs.Ytoecgkdipgaaeaa
open Go.RowKit

def En.kb (e : En) : Key := e.key.data.toList
theorem leB_kb (a b : ByteArray) : leB a b = (bytesBefore a.data.toList b.data.toList || a.data.toList == b.data.toList) := by
  unfold leB
  rw [ByteArray.toList_eq, ByteArray.toList_eq, bytesLess_eq]
theorem less_leB (a b : ByteArray) : Op.bytesLess a.toList b.toList = !leB b a := by
  rw [leB_kb, ByteArray.toList_eq, ByteArray.toList_eq, bytesLess_eq]
  by_cases e : b.data.toList = a.data.toList
  · rw [e, bB_irrefl]; simp
  · rw [beq_eq_false_iff_ne.2 e, Bool.or_false]
    rcases bB_total e with h | h
    · rw [h]
      cases hh : bytesBefore a.data.toList b.data.toList
      · rfl
      · have := bB_trans h hh; rw [bB_irrefl] at this; cases this
    · rw [h]
      cases hh : bytesBefore b.data.toList a.data.toList
      · rfl
      · have := bB_trans h hh; rw [bB_irrefl] at this; cases this
theorem leB_no {a b : ByteArray} (h : leB b a = false) : bytesBefore a.data.toList b.data.toList = true := by
  have := less_leB a b
  rw [h, ByteArray.toList_eq, ByteArray.toList_eq, bytesLess_eq] at this
  exact this
theorem no_leB {a b : ByteArray} (h : bytesBefore a.data.toList b.data.toList = true) : leB b a = false := by
  have := less_leB a b
  rw [ByteArray.toList_eq, ByteArray.toList_eq, bytesLess_eq, h] at this
  cases hh : leB b a
  · rfl
  · rw [hh] at this; cases this
structure OwnOk (l : List En) : Prop where
  each : ∀ e ∈ l, (e.kind = 1 ∨ e.kind = 2) ∧ e.chk = 0
  up : l.Pairwise fun a b => bytesBefore a.kb b.kb = true
theorem OwnOk.nil : OwnOk [] := ⟨fun _ h => (by cases h), List.Pairwise.nil⟩
theorem OwnOk.add {l : List En} {e : En} (h : OwnOk l) (hk : e.kind = 1 ∨ e.kind = 2) (hc : e.chk = 0) (hu : notUp l e = false) : OwnOk (l ++ [e]) := by
  refine ⟨fun x hx => ?_, List.pairwise_append.2 ⟨h.up, List.pairwise_singleton _ _, fun a ha b hb => ?_⟩⟩
  · rcases List.mem_append.1 hx with hx | hx
    · exact h.each x hx
    · rw [List.mem_singleton.1 hx]; exact ⟨hk, hc⟩
  · rw [List.mem_singleton.1 hb]
    have hn : l ≠ [] := List.ne_nil_of_mem ha
    have hlast : bytesBefore (l.getLast hn).kb e.kb = true := by
      unfold notUp at hu
      rw [List.getLast?_eq_some_getLast hn] at hu
      exact leB_no hu
    have hu2 := h.up
    rw [← List.dropLast_concat_getLast hn] at ha hu2
    rcases List.mem_append.1 ha with h1 | h1
    · exact bB_trans ((List.pairwise_append.1 hu2).2.2 a h1 _ (List.mem_singleton_self _)) hlast
    · rw [List.mem_singleton.1 h1]; exact hlast
theorem OwnOk.notUp {l : List En} (h : OwnOk l) {K : Nat} (hK : K < l.length) : notUp (l.take K) l[K] = false := by
  rcases Nat.eq_zero_or_pos K with rfl | h0
  · exact notUp_0
  · obtain ⟨J, rfl⟩ : ∃ J, K = J + 1 := ⟨K - 1, by omega⟩
    rw [notUp_J (show J < l.length by omega) rfl]
    exact no_leB (List.pairwise_iff_getElem.1 h.up J (J + 1) (by omega) hK (by omega))
theorem comG_own {own : List En} {c : En} {m : Int} (h : OwnOk own) (hn : own ≠ []) (h1 : c.kind = 3) (h2 : c.chk = 0) (h3 : c.stamp = m) (h4 : c.count = own.length) : comG m [] (own ++ [c]) = some own := by
  have hs : ∀ n, n ≤ own.length → comG m [] (own ++ [c]) = comG m ((own ++ [c]).take n) ((own ++ [c]).drop n) := by
    intro n
    induction n with
    | zero => intro _; rfl
    | succ n ih =>
      intro hl
      rw [ih (by omega)]
      have hK : n < (own ++ [c]).length := by rw [List.length_append]; omega
      have hx : own[n] = (own ++ [c])[n] := by rw [List.getElem_append_left (by omega)]
      have hm := h.each own[n] (List.getElem_mem _)
      exact comG_up hK hx hm.2 hm.1 (by rw [List.take_append_of_le_length (by omega)]; exact h.notUp (by omega))
  rw [hs own.length (Nat.le_refl _)]
  have hK : own.length < (own ++ [c]).length := by rw [List.length_append, List.length_singleton]; omega
  have hx : c = (own ++ [c])[own.length] := by simp
  rw [comG_end hK hx h2 h1, if_neg (by
    rintro (h | h | h)
    · exact hn (List.length_eq_zero_iff.1 h)
    · exact h h3
    · exact h h4), List.take_left']
  rfl
theorem own_wOf {e : En} {m : Int} (hk : e.kind = 1 ∨ e.kind = 2) (hc : e.chk = 0) (h0 : 0 ≤ m) (h1 : m ≤ 4611686018427387904) : (wOf m e).bad = 0 ∧ (wOf m e).k = e.kb ∧ (wOf m e).stamp = m ∧ (wOf m e).value = e.value ∧ ((wOf m e).dead = true ↔ e.kind = 2) ∧ (e.kind = 2 → e.value = []) := by
  have hm : e.may := by
    unfold En.chk at hc
    by_cases hm : e.may
    · exact hm
    · rw [if_neg hm] at hc; cases hc
  obtain ⟨k, s, n, key, v, d⟩ := e
  rcases hk with rfl | rfl
  · rw [may_1] at hm
    have hw : wOf m ⟨1, s, n, key, v, d⟩ = ⟨key, m, v, false⟩ := rfl
    rw [hw]
    exact ⟨bad_of hm.1 hm.2.1 hm.2.2.2.2.2 (fun h => by cases h) h0 h1, rfl, rfl, rfl, by simp, fun h => by cases h⟩
  · rw [may_2] at hm
    have hv : v = [] := List.length_eq_zero_iff.1 hm.2.2.2.2.2
    subst hv
    have hw : wOf m ⟨2, s, n, key, [], d⟩ = ⟨key, m, [], true⟩ := rfl
    rw [hw]
    exact ⟨bad_of hm.1 hm.2.1 (Nat.zero_le _) (fun _ => rfl) h0 h1, rfl, rfl, rfl, by simp, fun _ => rfl⟩
theorem tryL_applyL {m : Int} : ∀ {vs : List Vn} {S : PS}, (∀ v ∈ vs, v.bad = 0 ∧ v.stamp = m ∧ (0 < (ofP S v.k).length → lastP (ofP S v.k) < m)) → (vs.Pairwise fun a b => a.k ≠ b.k) → tryL S vs = applyL S vs m
  | [], _, _, _ => rfl
  | a :: r, S, h, hp => by
    obtain ⟨h1, h2, h3⟩ := h a (List.mem_cons_self ..)
    obtain ⟨p1, p2⟩ := List.pairwise_cons.1 hp
    have he : errP S a = 0 := errP_of h1 (by rw [h2]; exact h3)
    show tryL (tryP S a) r = applyL (applyP S { a with stamp := m }) r m
    have ha : ({ a with stamp := m } : Vn) = a := by rw [← h2]
    rw [ha, show tryP S a = applyP S a from if_pos he]
    refine tryL_applyL (fun v hv => ?_) p2
    obtain ⟨q1, q2, q3⟩ := h v (List.mem_cons_of_mem _ hv)
    refine ⟨q1, q2, ?_⟩
    unfold applyP
    rw [of_put_other (p1 v hv)]
    exact q3
theorem of_applyLp {n : Int} : ∀ {l : List Vn} {S : PS}, (l.Pairwise fun a b => a.k ≠ b.k) → ∀ {v : Vn}, v ∈ l → ofP (applyL S l n) v.k = ofP S v.k ++ [⟨n, v.value, v.dead⟩]
  | [], _, _, v, h => by cases h
  | a :: r, S, hp, v, hv => by
    obtain ⟨h1, h2⟩ := List.pairwise_cons.1 hp
    have hne : ∀ x ∈ r, x.k ≠ a.k := fun x hx e => h1 x hx e.symm
    show ofP (applyL (applyP S { a with stamp := n }) r n) v.k = _
    by_cases hva : v.k = a.k
    · by_cases hvm : v ∈ r
      · exact absurd hva (hne v hvm)
      · have hv2 : v = a := (List.mem_cons.1 hv).resolve_right hvm
        subst hv2
        rw [applyL_other hne]
        exact of_put_same
    · have hvr : v ∈ r := (List.mem_cons.1 hv).resolve_left (fun e => hva (by rw [e]))
      rw [of_applyLp h2 hvr]
      congr 1
      exact of_put_other (fun e => hva e.symm)
/-- The entries of a commit behind whole groups: what is read of them. -/
theorem behind_end {ahead own : List En} {c : En} {S : PS} {now start : Int} {n : Nat} (g : Grp ahead start S now n) (h0 : 0 ≤ now) (h1 : now < 4611686018427387904) (h : OwnOk own) (hn : own ≠ []) (c1 : c.kind = 3) (c2 : c.chk = 0) (c3 : c.stamp = now + 1) (c4 : c.count = own.length) :
    GrpEnd (ahead.take n ++ (own ++ [c])) start (tryL S (own.map (wOf (now + 1)))) (now + 1) (ahead.take n ++ (own ++ [c])).length := by
  have hle := g.le
  have e1 : (ahead.take n).length = n := by rw [List.length_take]; omega
  have hw : IntKind.i64.wrap (now + 1) = now + 1 := by rw [IntKind.wrap_i64]; omega
  have h2 : Grp (ahead.take n ++ (own ++ [c])) start S now n := (g.loc (Nat.le_refl _)).app _
  have hg : grpF S now n ((ahead.take n ++ (own ++ [c])).drop n) = some (tryL S (own.map (wOf (now + 1))), now + 1, own.length + 1) := by
    rw [List.drop_append_of_le_length (by omega), List.drop_of_length_le (by omega), List.nil_append]
    have hcg := comG_own h hn c1 c2 c3 c4
    cases own with
    | nil => exact absurd rfl hn
    | cons o r =>
      have hk := (h.each o (List.mem_cons_self ..)).1
      rw [List.cons_append] at hcg ⊢
      rw [grpF_cons, if_neg (by omega), hw, hcg]
  have h3 := Grp.step h2 hg
  have e2 : (ahead.take n ++ (own ++ [c])).length = n + (own.length + 1) := by rw [List.length_append, e1, List.length_append, List.length_singleton]
  rw [← e2] at h3
  exact ⟨h3, by rw [List.drop_of_length_le (Nat.le_refl _)]; rfl⟩
theorem behind_get {own : List En} {S : PS} {now : Int} (hS : PsOk S now) (h0 : 0 ≤ now) (h1 : now < 4611686018427387904) (h : OwnOk own) {e : En} (he : e ∈ own) : getF (tryL S (own.map (wOf (now + 1)))) e.kb (now + 1) = if e.kind = 1 then some e.value else none := by
  have hw : ∀ x ∈ own, (wOf (now + 1) x).bad = 0 ∧ (wOf (now + 1) x).k = x.kb ∧ (wOf (now + 1) x).stamp = now + 1 ∧ (wOf (now + 1) x).value = x.value ∧ ((wOf (now + 1) x).dead = true ↔ x.kind = 2) ∧ (x.kind = 2 → x.value = []) := fun x hx => own_wOf (h.each x hx).1 (h.each x hx).2 (by omega) (by omega)
  have hp : (own.map (wOf (now + 1))).Pairwise fun a b => a.k ≠ b.k := by
    rw [List.pairwise_map]
    refine List.Pairwise.imp_of_mem ?_ h.up
    intro a b ha hb hab e
    rw [(hw a ha).2.1, (hw b hb).2.1] at e
    rw [e, bB_irrefl] at hab
    cases hab
  rw [tryL_applyL (m := now + 1) (fun v hv => by
    obtain ⟨x, hx, rfl⟩ := List.mem_map.1 hv
    refine ⟨(hw x hx).1, (hw x hx).2.2.1, fun hl => ?_⟩
    have ho := hS.of (k := (wOf (now + 1) x).k)
    have hne : ofP S (wOf (now + 1) x).k ≠ [] := List.ne_nil_of_length_pos hl
    have hla : lastP (ofP S (wOf (now + 1) x).k) = ((ofP S (wOf (now + 1) x).k).getLast hne).st := by
      conv => lhs; rw [← List.dropLast_concat_getLast hne]
      rw [lastP_snoc]
    rw [hla]
    have := (ho.2 _ (List.getLast_mem hne)).top
    omega) hp]
  have hk := (hw e he).2.1
  unfold getF
  rw [← hk, of_applyLp hp (List.mem_map.2 ⟨e, he, rfl⟩), List.filter_append, List.filter_cons_of_pos (by simp), List.filter_nil, List.getLast?_concat]
  simp only
  obtain ⟨_, _, _, h5, h6, h7⟩ := hw e he
  rw [h5]
  rcases (h.each e he).1 with hk1 | hk2
  · have hd : ¬ (wOf (now + 1) e).dead = true := fun h => by have := h6.1 h; omega
    rw [if_neg hd, if_pos hk1]
  · rw [if_pos (h6.2 hk2), if_neg (show ¬ e.kind = 1 by omega)]
end Go.Proofs.Ytoecgkdipgaaeaa
