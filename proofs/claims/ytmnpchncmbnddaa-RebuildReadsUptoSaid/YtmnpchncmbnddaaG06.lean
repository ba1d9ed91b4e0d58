/- Contracts and plain laws that this claim leans on, laid together: Stor4, Stor5, Clk, Com1, Com2, Com3, Com4, ComP, Com5, Wal6, CFr, Cmt1, Load. -/
import Derived.Test.YtmnpchncmbnddaaG05
import Derived.Deep.RegionLaw
import Derived.Test.YtmnpchncmbnddaaG04
import Derived.BigQuiet
import Derived.Lib.SmallJoins
set_option linter.all false
set_option linter.unusedVariables false
set_option linter.unusedSimpArgs false
set_option linter.unnecessarySimpa false
/- Stores: what holds of the pieces while Apply goes on. -/
namespace Go.Proofs.Ytmnpchncmbnddaa
open Go.RowKit

/-- Two pieces that are one. -/
def Item.Same (x y : Item) : Prop := (∀ k, x.own k ↔ y.own k) ∧ ∀ w, x.P w ↔ y.P w
section
variable {x y a : Item} {w w' : World} {L M R : List Item}
theorem Item.Same.symm (h : x.Same y) : y.Same x := ⟨fun k => (h.1 k).symm, fun w => (h.2 w).symm⟩
theorem Item.Same.trans {z : Item} (h : x.Same y) (h' : y.Same z) : x.Same z := ⟨fun k => (h.1 k).trans (h'.1 k), fun w => (h.2 w).trans (h'.2 w)⟩
theorem Turn.sameR (h : Turn a w x w') (e : x.Same y) : Turn a w y w' := ⟨(e.2 _).1 h.p, h.k, fun k hk => h.o k ((e.1 k).2 hk)⟩
theorem Turn.sameL (h : Turn x w a w') (e : x.Same y) : Turn y w a w' := ⟨h.p, h.k.mono (fun i hi => .inl ((e.1 i).1 hi)), fun k hk => (h.o k hk).imp (e.1 k).1 id⟩
theorem same_flat : (Item.all (Item.all L :: M)).Same (Item.all (L ++ M)) := by
  refine ⟨fun k => ⟨fun ⟨i, hi, ho⟩ => ?_, fun ⟨i, hi, ho⟩ => ?_⟩, fun w => ⟨fun h => ⟨fun i hi => ?_, ?_⟩, fun h => ⟨fun i hi => ?_, ?_⟩⟩⟩
  · rcases List.mem_cons.1 hi with rfl | hi
    · obtain ⟨j, hj, hk⟩ := ho
      exact ⟨j, List.mem_append.2 (.inl hj), hk⟩
    · exact ⟨i, List.mem_append.2 (.inr hi), ho⟩
  · rcases List.mem_append.1 hi with hi | hi
    · exact ⟨_, List.mem_cons_self .., i, hi, ho⟩
    · exact ⟨i, List.mem_cons_of_mem _ hi, ho⟩
  · have hL : (Item.all L).P w := h.1 _ (List.mem_cons_self ..)
    rcases List.mem_append.1 hi with hi | hi
    · exact hL.1 i hi
    · exact h.1 i (List.mem_cons_of_mem _ hi)
  · have hL : (Item.all L).P w := h.1 _ (List.mem_cons_self ..)
    obtain ⟨h1, h2⟩ := List.pairwise_cons.1 h.2
    exact List.pairwise_append.2 ⟨hL.2, h2, fun i hi j hj k h3 h4 => h1 j hj k ⟨i, hi, h3⟩ h4⟩
  · rcases List.mem_cons.1 hi with rfl | hi
    · exact ⟨fun j hj => h.1 j (List.mem_append.2 (.inl hj)), (List.pairwise_append.1 h.2).1⟩
    · exact h.1 i (List.mem_append.2 (.inr hi))
  · obtain ⟨h1, h2, h3⟩ := List.pairwise_append.1 h.2
    exact List.pairwise_cons.2 ⟨fun j hj k ⟨i, hi, h4⟩ h5 => h3 i hi j hj k h4 h5, h2⟩
theorem same_perm (h : L.Perm M) : (Item.all L).Same (Item.all M) :=
  ⟨fun k => ⟨fun ⟨i, hi, ho⟩ => ⟨i, h.mem_iff.1 hi, ho⟩, fun ⟨i, hi, ho⟩ => ⟨i, h.mem_iff.2 hi, ho⟩⟩, fun w => ⟨fun hp => Item.all_perm hp h, fun hp => Item.all_perm hp h.symm⟩⟩
end
/-- A link's value and its chain have become one chain. -/
theorem add_pieces {w w' : World} {h h' : Ch} {l : Lk} {R : List Item} (hl : h'.ls = h.ls ++ [l]) (hp : (Item.all (l.item :: h.item :: R)).P w) (t : Turn h.core w h'.core w') :
    Turn (Item.all (l.item :: h.item :: R)) w (Item.all (h'.item :: R)) w' := by
  have e1 : (Item.all (l.item :: h.item :: R)).Same (Item.all (h.core :: (l.item :: (h.ls.map Lk.item ++ R)))) := by
    refine (same_perm (List.Perm.swap _ _ _)).trans (Item.Same.trans same_flat ?_)
    refine Item.Same.trans (same_perm ?_) (Item.Same.symm same_flat)
    show (h.pieces ++ l.item :: R).Perm ([Item.blk _ _ _, Item.rowT _ _ _ _ _] ++ l.item :: (h.ls.map Lk.item ++ R))
    unfold Ch.pieces
    refine List.Perm.cons _ (List.Perm.cons _ ?_)
    exact List.perm_middle
  have e2 : (Item.all (h'.core :: (l.item :: (h.ls.map Lk.item ++ R)))).Same (Item.all (h'.item :: R)) := by
    refine Item.Same.trans same_flat (Item.Same.trans (same_perm ?_) (Item.Same.symm same_flat))
    show ([Item.blk _ _ _, Item.rowT _ _ _ _ _] ++ l.item :: (h.ls.map Lk.item ++ R)).Perm (h'.pieces ++ R)
    unfold Ch.pieces
    rw [hl, List.map_append]
    refine List.Perm.cons _ (List.Perm.cons _ ?_)
    show (l.item :: (h.ls.map Lk.item ++ R)).Perm (h.ls.map Lk.item ++ [l.item] ++ R)
    rw [List.append_assoc]
    exact List.perm_middle.symm
  have hp' := (e1.2 w).1 hp
  exact ((Turn.head hp' t).sameL e1.symm).sameR e2
/-- What a store holds besides the chain of a key. -/
def St.rest (s : St) (k : Key) : List Item := (othersA k s.cs).map (fun p => p.2.item)
theorem St.some_perm {s : St} {k : Key} {c : Ch} (ha : Apart s.cs) (h : getA k s.cs = some c) : s.pieces.Perm (c.item :: Item.blk s.gs 106 #[.map (some s.gm), .int .i64 s.live] :: Item.map s.gm (mapA Ch.g s.cs) :: s.rest k) := by
  have h1 := (getA_perm ha h).map (fun p => p.2.item)
  unfold St.pieces St.rest
  exact ((h1.cons _).cons _).trans ((List.Perm.swap _ _ _).cons _ |>.trans (List.Perm.swap _ _ _))
theorem St.none_eq {s : St} {k : Key} (h : getA k s.cs = none) : s.pieces = Item.blk s.gs 106 #[.map (some s.gm), .int .i64 s.live] :: Item.map s.gm (mapA Ch.g s.cs) :: s.rest k := by
  unfold St.pieces St.rest
  rw [getA_none h]
theorem St.put_perm {s : St} {k : Key} {c : Ch} {lv : Int} : (St.pieces ⟨s.gs, s.gm, lv, putA k c s.cs⟩).Perm (c.item :: Item.blk s.gs 106 #[.map (some s.gm), .int .i64 lv] :: Item.map s.gm (mapA Ch.g (putA k c s.cs)) :: s.rest k) := by
  have h1 := (putA_perm k c s.cs).map (fun p => p.2.item)
  unfold St.pieces St.rest
  exact ((h1.cons _).cons _).trans ((List.Perm.swap _ _ _).cons _ |>.trans (List.Perm.swap _ _ _))
theorem same_one {x : Item} : (Item.all [x]).Same x :=
  ⟨fun k => ⟨fun ⟨i, hi, ho⟩ => by simp only [List.mem_cons, List.not_mem_nil, or_false] at hi; subst hi; exact ho, fun h => ⟨x, by simp, h⟩⟩, fun w => ⟨fun h => h.1 x (by simp), fun h => ⟨fun i hi => by simp only [List.mem_cons, List.not_mem_nil, or_false] at hi; subst hi; exact h, List.pairwise_singleton _ _⟩⟩⟩
theorem same_boxed {L : List Item} {b : Item} : (Item.all [b, Item.all L]).Same (Item.all (b :: L)) := by
  refine (same_perm (List.Perm.swap _ _ _)).trans (Item.Same.trans same_flat (same_perm ?_))
  exact (List.perm_append_comm (l₁ := L) (l₂ := [b]))
theorem same_cons {b : Item} {L M : List Item} (h : L.Perm M) : (Item.all (b :: L)).Same (Item.all (b :: M)) := same_perm (h.cons b)
theorem split_some {s : St} {k : Key} {c : Ch} {b : Item} (ha : Apart s.cs) (h : getA k s.cs = some c) : (Item.all [b, s.item]).Same (Item.all (c.item :: b :: Item.blk s.gs 106 #[.map (some s.gm), .int .i64 s.live] :: Item.map s.gm (mapA Ch.g s.cs) :: s.rest k)) :=
  same_boxed.trans ((same_cons (St.some_perm ha h)).trans (same_perm (List.Perm.swap _ _ _)))
theorem split_none {s : St} {k : Key} {b : Item} (h : getA k s.cs = none) : (Item.all [b, s.item]).Same (Item.all (b :: Item.blk s.gs 106 #[.map (some s.gm), .int .i64 s.live] :: Item.map s.gm (mapA Ch.g s.cs) :: s.rest k)) := by
  have := same_boxed (L := s.pieces) (b := b)
  have e := St.none_eq h
  rw [← e]
  exact this
theorem join_put {s : St} {k : Key} {c : Ch} {b : Item} {lv : Int} : (Item.all (c.item :: b :: Item.blk s.gs 106 #[.map (some s.gm), .int .i64 lv] :: Item.map s.gm (mapA Ch.g (putA k c s.cs)) :: s.rest k)).Same (Item.all [b, St.item ⟨s.gs, s.gm, lv, putA k c s.cs⟩]) :=
  Item.Same.symm (same_boxed.trans ((same_cons St.put_perm).trans (same_perm (List.Perm.swap _ _ _))))
theorem map_turn {w w' : World} {gm n : Nat} {m m' : List (Key × Nat)} (h : (Item.map gm m).P w) (ho : w'.ownsMap Try.prog 9 chR gm n (dS m')) (hg : w.grownBy w' (some gm)) : Turn (Item.map gm m) w (Item.map gm m') w' :=
  ⟨map_tight ho, (Keeps.of_grown hg).mono (fun i hi => .inl (by injection hi with hi)), fun k hk => .inl hk⟩
theorem bad_0 {v : Vn} (h : v.bad = 0) : 1 ≤ v.key.size ∧ v.key.size ≤ 255 ∧ v.value.length ≤ 4096 ∧ (v.dead = true → v.value.length = 0) ∧ 0 ≤ v.stamp ∧ v.stamp ≤ 4611686018427387904 := by
  unfold Vn.bad at h
  split at h
  · cases h
  · split at h
    · cases h
    · split at h
      · cases h
      · rename_i h1 h2 h3
        refine ⟨by omega, by omega, by omega, fun hd => ?_, by omega, by omega⟩
        have : ¬ 0 < v.value.length := fun hl => h2 (.inr ⟨hd, hl⟩)
        omega
def liveN (cs : List (Key × Ch)) : Nat := (cs.map fun p => weightL p.1.length p.2.ls).sum
/-- A store of so many versions at most. -/
structure St.ok (s : St) (N : Nat) : Prop where
  apart : Apart s.cs
  many : s.cs.length ≤ N
  each : ∀ p ∈ s.cs, p.1.length ≤ 255 ∧ 0 < p.2.ls.length ∧ p.2.ls.length ≤ N ∧ ∀ l ∈ p.2.ls, l.x.v.length ≤ 4096
  live : s.live = (liveN s.cs : Nat)
theorem weightL_le {k : Nat} {ls : List Lk} (hk : k ≤ 255) (h : ∀ l ∈ ls, l.x.v.length ≤ 4096) : weightL k ls ≤ 4351 := by
  unfold weightL
  split
  · omega
  · have : (lastL ls).x.v.length ≤ 4096 := by
      unfold lastL
      cases hl : ls.getLast? with
      | none => simp [Lk.none]
      | some l => exact h l (List.mem_of_getLast? hl)
    omega
theorem liveN_le {cs : List (Key × Ch)} (h : ∀ p ∈ cs, p.1.length ≤ 255 ∧ ∀ l ∈ p.2.ls, l.x.v.length ≤ 4096) : liveN cs ≤ 4351 * cs.length := by
  induction cs with
  | nil => simp [liveN]
  | cons p r ih =>
    have h1 := ih (fun q hq => h q (List.mem_cons_of_mem _ hq))
    have h2 := weightL_le (h p (List.mem_cons_self ..)).1 (h p (List.mem_cons_self ..)).2
    show weightL _ _ + liveN r ≤ _
    rw [List.length_cons]; omega
theorem liveN_get {cs : List (Key × Ch)} {k : Key} (ha : Apart cs) : liveN cs = weightL k.length (Ch.ofO (getA k cs)) + liveN (othersA k cs) := by
  cases hg : getA k cs with
  | none => rw [getA_none hg]; simp [Ch.ofO, weightL]
  | some c =>
    have := ((getA_perm ha hg).map fun p => weightL p.1.length p.2.ls).sum_nat
    unfold liveN
    rw [this]; rfl
theorem liveN_put {cs : List (Key × Ch)} {k : Key} {c : Ch} : liveN (putA k c cs) = weightL k.length c.ls + liveN (othersA k cs) := by
  have := ((putA_perm k c cs).map fun p => weightL p.1.length p.2.ls).sum_nat
  unfold liveN
  rw [this]; rfl
theorem St.ok.o {s : St} {N : Nat} (h : s.ok N) (hN : N ≤ 1099511627776) {w : World} (hp : s.item.P w) : St.okO w (some s) :=
  ⟨hp, fun p hpp => ⟨Nat.le_trans (h.each p hpp).2.2.1 hN, (h.each p hpp).2.2.2⟩⟩
theorem ok_put {s : St} {N : Nat} (h : s.ok N) {k : Key} {c : Ch} {l : Lk} {lv : Int} (hk : k.length ≤ 255) (hc : c.ls = Ch.ofO (getA k s.cs) ++ [l]) (hl : l.x.v.length ≤ 4096) (hlv : lv = (liveN (putA k c s.cs) : Nat)) : (St.mk s.gs s.gm lv (putA k c s.cs)).ok (N + 1) := by
  refine ⟨apart_put h.apart, ?_, fun p hp => ?_, hlv⟩
  · show (putA k c s.cs).length ≤ _
    rw [(putA_perm k c s.cs).length_eq, List.length_cons]
    have := List.length_filter_le (fun p : Key × Ch => !(p.1 == k)) s.cs
    have := h.many
    show (othersA k s.cs).length + 1 ≤ _
    unfold othersA
    omega
  · have hp : p ∈ putA k c s.cs := hp
    rcases List.mem_cons.1 ((putA_perm k c s.cs).mem_iff.1 hp) with rfl | hp
    · refine ⟨hk, ?_, ?_, ?_⟩
      · rw [hc]; simp
      · rw [hc, List.length_append, List.length_singleton]
        cases hg : getA k s.cs with
        | none => simp [Ch.ofO]
        | some c0 => have := (h.each _ (getA_mem hg)).2.2.1; show c0.ls.length + 1 ≤ _; simp only at this; omega
      · intro x hx
        simp only at hx
        rw [hc] at hx
        rcases List.mem_append.1 hx with hx | hx
        · cases hg : getA k s.cs with
          | none => rw [hg] at hx; cases hx
          | some c0 => rw [hg] at hx; exact (h.each _ (getA_mem hg)).2.2.2 x hx
        · simp only [List.mem_cons, List.not_mem_nil, or_false] at hx; subst hx; exact hl
    · obtain ⟨h1, h2, h3, h4⟩ := h.each p (List.mem_filter.1 hp).1
      exact ⟨h1, h2, by omega, h4⟩
end Go.Proofs.Ytmnpchncmbnddaa
/- Stores: New, Apply, by contract. -/
attribute [local go_sem ↓] Go.wp_at_zero Go.wp_at_succ
namespace Go.Proofs.Ytmnpchncmbnddaa
open Go.RowKit

/-- What refuses a version; 0: nothing. -/
def St.errOf (s : St) (v : Vn) : Int :=
  if v.bad ≠ 0 then v.bad else if 0 < (Ch.ofO (getA v.key.data.toList s.cs)).length ∧ v.stamp ≤ (lastL (Ch.ofO (getA v.key.data.toList s.cs))).x.st then 130 else 0
def ApplyPost (s : St) (v : Vn) (N : Nat) (w : World) (e : Ending) (w' : World) : Prop :=
  e = .returned (.int .i64 (s.errOf v)) ∧
    (s.errOf v ≠ 0 ∧ Below w.heap.size w w' ∨
     s.errOf v = 0 ∧ ∃ (c : Ch) (l : Lk) (lv : Int), c.ls = Ch.ofO (getA v.key.data.toList s.cs) ++ [l] ∧ l.x = ⟨v.stamp, v.value, v.dead⟩ ∧
       (St.mk s.gs s.gm lv (putA v.key.data.toList c s.cs)).ok (N + 1) ∧ Turn s.item w (St.item ⟨s.gs, s.gm, lv, putA v.key.data.toList c s.cs⟩) w')
theorem stown_n {w : World} {B c n : Nat} {A : Option Addr} {l : List UInt8} (hr : BReads w B A l) (hl : l.length ≤ 140737488355328) (hn : n = l.length) :
    Calls Try.prog 41 #[.slice A n c] w fun e w' => ∃ A2 c2, e = .returned (.slice A2 n c2) ∧ BOwns w' w.heap.size (.slice A2 n c2) l ∧ Below w.heap.size w w' := by
  subst hn
  refine (stown_any hr hl).mono ?_
  rintro e w2 ⟨v2, rfl, ho, hb⟩
  obtain ⟨A2, c2, rfl, _, _⟩ := BOwns.slice ho
  exact ⟨A2, c2, rfl, ho, hb⟩
/-- Add's outcomes. -/
def AddOut (h : Ch) (l : Lk) (w : World) (e : Ending) (w' : World) : Prop :=
  ∃ m : Int, e = .returned (.int .i64 m) ∧ (m = 130 ∧ AddBad h l ∧ Below w.heap.size w w' ∨ m = 0 ∧ ¬ AddBad h l ∧ ∃ A' c', Turn h.core w (Ch.core ⟨h.g, A', c', h.ls ++ [l]⟩) w')
theorem cadd_n {w : World} {h : Ch} (hp : h.item.P w) (hn : h.ls.length ≤ 1099511627775) (l : Lk) {st : Int} {A : Option Addr} {n c : Nat} {d : Bool} (hl : l.cells = [.int .i64 st, .slice A n c, .bool d]) :
    Calls Try.prog 112 #[.pointer (some ⟨h.g, 0, none⟩), .agg #[.int .i64 st, .slice A n c, .bool d]] w (AddOut h l w) := by
  have := cadd_any hp hn l
  rw [hl] at this
  refine this.mono ?_
  rintro e w' (⟨h1, rfl, h2⟩ | ⟨h1, rfl, A', c', t⟩)
  · exact ⟨130, rfl, .inl ⟨rfl, h1, h2⟩⟩
  · exact ⟨0, rfl, .inr ⟨rfl, h1, A', c', t⟩⟩
theorem addOut_keeps {w w' : World} {h : Ch} {l : Lk} {m : Int} (hm : m = 130 ∧ AddBad h l ∧ Below w.heap.size w w' ∨ m = 0 ∧ ¬ AddBad h l ∧ ∃ A' c', Turn h.core w (Ch.core ⟨h.g, A', c', h.ls ++ [l]⟩) w') : Keeps h.core.own w w' := by
  rcases hm with ⟨_, _, hb⟩ | ⟨_, _, A', c', t⟩
  · exact Keeps.of_below hb _
  · exact t.k
theorem core_own {h : Ch} {k : Nat} (hk : h.core.own k) : h.item.own k := by
  obtain ⟨i, hi, ho⟩ := hk
  simp only [List.mem_cons, List.not_mem_nil, or_false] at hi
  rcases hi with rfl | rfl
  · exact ⟨_, List.mem_cons_self .., ho⟩
  · exact ⟨_, List.mem_cons_of_mem _ (List.mem_cons_self ..), ho⟩
theorem errOf_0 {s : St} {key : ByteArray} {st : Int} {val : List UInt8} {dd : Bool} {C0 : Ch} {l : Lk} (hb : 0 = Vn.bad ⟨key, st, val, dd⟩) (hc : C0.ls = Ch.ofO (getA key.data.toList s.cs)) (hl : l.x = ⟨st, val, dd⟩) (hn : ¬ AddBad C0 l) : s.errOf ⟨key, st, val, dd⟩ = 0 := by
  unfold St.errOf
  rw [if_neg (by rw [← hb]; simp), if_neg]
  rintro ⟨h1, h2⟩
  refine hn (.inr ?_)
  rw [hc, hl]
  exact ⟨h1, h2⟩
theorem errOf_130 {s : St} {key : ByteArray} {st : Int} {val : List UInt8} {dd : Bool} {C0 : Ch} {l : Lk} (hb : 0 = Vn.bad ⟨key, st, val, dd⟩) (hc : C0.ls = Ch.ofO (getA key.data.toList s.cs)) (hl : l.x = ⟨st, val, dd⟩) (h0 : 0 ≤ st) (hn : AddBad C0 l) : s.errOf ⟨key, st, val, dd⟩ = 130 := by
  unfold St.errOf
  rw [if_neg (by rw [← hb]; simp), if_pos]
  unfold AddBad at hn
  rw [hc, hl] at hn
  rcases hn with h | h
  · exact absurd h (by simp only; omega)
  · exact h
set_option maxRecDepth 100000 in
set_option maxHeartbeats 3200000 in
theorem snew_any {w : World} : Calls Try.prog 32 #[] w fun e w' => ∃ gs gm, e = .returned (.pointer (some ⟨gs, 0, none⟩)) ∧ (St.mk gs gm 0 []).ok 0 ∧ Turn (Item.all []) w (St.item ⟨gs, gm, 0, []⟩) w' := by
  have hmm := @run_makeMap Try.prog
  have HM := Lib.hid (World.ownsMap_made (H := Unit) w Try.prog 9 chR)
  have BM := Lib.hid ((Below.refl w.heap.size w).alloc (Nat.le_refl _) (.map #[] 0))
  go_enter Try.func32, Try.ntmps32
  go_wp2
  go_ret
  refine ⟨w.heap.size + 1, w.heap.size, rfl, ⟨List.Pairwise.nil, Nat.le_refl 0, fun p hp => (by cases hp), rfl⟩, ?_⟩
  have t1 := (Turn.none_ (w := w)).more (y := Item.map w.heap.size []) BM.out HM.out (fun k hk => Nat.le_of_eq hk.symm)
  have t2 := t1.more (y := Item.blk (w.heap.size + 1) 106 #[.map (some w.heap.size), .int .i64 0]) (w'' := (w.alloc (.map #[] 0)).alloc (.cells #[.map (some w.heap.size), .int .i64 0] 106)) ((Below.refl _ _).alloc (Nat.le_refl _) _) (by
    have := Blk.new (w.alloc (.map #[] 0)) 106 #[.map (some w.heap.size), .int .i64 0]
    rw [show (w.alloc (.map #[] 0)).heap.size = w.heap.size + 1 from by simp] at this
    exact this) (fun k hk => by
    have hk : k = w.heap.size + 1 := hk
    subst hk; simp)
  exact t2
set_option maxRecDepth 100000 in
set_option maxHeartbeats 6400000 in
theorem apply_any {w : World} {s : St} {N : Nat} (h : s.item.P w) (hok : s.ok N) (hN : N ≤ 1099511627775) {A : Option Addr} {c : Nat} (v : Vn) (hr : BReads w w.heap.size A v.value) (hks : v.key.size ≤ maxLen) (hvs : v.value.length ≤ 140737488355328) :
    Calls Try.prog 75 #[.pointer (some ⟨s.gs, 0, none⟩), .agg (v.cells A c)] w (ApplyPost s v N w) := by
  have HP := Lib.hid h
  have HOK := Lib.hid hok
  have HR := Lib.hid hr
  have HMAY := Lib.hid (fun (w : World) => stmay_any (w := w) (A := A) (c := c) v)
  obtain ⟨key, st, val, dd⟩ := v
  simp only [Vn.cells] at HMAY hks hvs HR ⊢
  obtain ⟨bad, hbad⟩ : ∃ b, b = Vn.bad ⟨key, st, val, dd⟩ := ⟨_, rfl⟩
  have HBAD := Lib.hid hbad
  rw [← hbad] at HMAY
  clear h hok hr hbad
  obtain ⟨vn, hvn⟩ : ∃ n, n = val.length := ⟨_, rfl⟩
  have HVN := Lib.hid hvn
  rw [← hvn] at HMAY hvs ⊢
  clear hvn
  have B1 := Lib.hid ((Below.refl w.heap.size w).alloc (Nat.le_refl _) (.cells #[.string key, .int .i64 st, .slice A vn c, .bool dd] 88))
  have K1 := Lib.hid (Blk.new w 88 #[.string key, .int .i64 st, .slice A vn c, .bool dd])
  have qM : ∀ (w : World) (r : Option Nat), (binOp .eql 104 (.map r) (.map none)).run Try.prog w = .ok (.bool r.isNone) w := fun w r => run_eql_map_nil w _ _ _ r Try.underlying104
  go_enter Try.func75, Try.ntmps75
  go_wp2_with fail
  obtain ⟨W, hW⟩ : ∃ W, W = w.alloc (.cells #[.string key, .int .i64 st, .slice A vn c, .bool dd] 88) := ⟨_, rfl⟩
  rw [← hW] at B1 K1 ⊢
  clear hW
  refine (HMAY.out W).mono ?_
  rintro e w2 ⟨rfl, hb⟩
  have B2 := Lib.hid (B1.out.trans (hb.mono B1.out.size))
  have K2 := Lib.hid (K1.out.below' hb)
  clear hb B1 K1 HMAY
  by_cases h0 : bad = 0
  case neg =>
    have d0 : decide (bad = 0) = false := decide_eq_false h0
    go_wp2
    go_ret
    have e : s.errOf ⟨key, st, val, dd⟩ = bad := by unfold St.errOf; rw [← HBAD.out, if_pos h0]
    exact ⟨by rw [e]; rfl, .inl ⟨by rw [e]; exact h0, B2.out⟩⟩
  case pos =>
    subst h0
    obtain ⟨hk1, hk2, hv4, hvd, hst0, hst1⟩ := bad_0 HBAD.out.symm
    simp only at hk1 hk2 hv4 hvd hst0 hst1
    rw [← HVN.out] at hv4
    have HST := Lib.hid (show 0 ≤ st ∧ st ≤ 4611686018427387904 from ⟨hst0, hst1⟩)
    have HK1 := Lib.hid (show key.size ≤ 255 from hk2)
    obtain ⟨T, hT⟩ : ∃ T, T = w.heap.size := ⟨_, rfl⟩
    have HT := Lib.hid hT
    rw [← hT] at K2 ⊢
    have T2 : Hid (Turn s.item w (Item.all [Item.blk T 88 #[.string key, .int .i64 st, .slice A vn c, .bool dd], s.item]) w2) := Lib.hid ((Turn.one (Turn.refl HP.out)).more B2.out K2.out (fun k hk => by
      have hk : k = T := hk
      omega))
    have k0 := K2.out.cell 0
    simp at k0
    have HOF := Lib.hid (sof_any (s := s) (key := key) (Item.go HP.out B2.out) (Nat.le_trans hk2 (by decide)))
    clear hT hk1 hvd hst0 hst1
    cases hg : getA key.data.toList s.cs with
    | none =>
      rw [hg, show ptrC none = .pointer none from rfl] at HOF
      have HG := Lib.hid hg
      have T3 := Lib.hid (T2.out.sameR (split_none hg))
      have HC0 : Hid ((Ch.mk w2.heap.size none 0 []).ls = Ch.ofO (getA key.data.toList s.cs)) := Lib.hid (by rw [hg]; rfl)
      clear hg
      go_wp2_with fail
      refine HOF.out.mono ?_
      rintro e w3 ⟨rfl, rfl⟩
      go_upto_region 9 with fail
      obtain ⟨X, hX⟩ : ∃ X, X = w2.alloc (.cells #[.slice none 0 0] 153) := ⟨_, rfl⟩
      have T4 : Hid (Turn s.item w (Item.all ((Ch.mk w2.heap.size none 0 []).item :: _)) X) := Lib.hid (by
        have hKX : Blk X w2.heap.size 153 #[.slice none 0 0] := by rw [hX]; exact Blk.new w2 _ _
        have hbX : Below w2.heap.size w2 X := by rw [hX]; exact (Below.refl _ _).alloc (Nat.le_refl _) _
        refine T3.out.more hbX ?_ ?_
        · refine ⟨fun i hi => ?_, ?_⟩
          · have hi : i ∈ [Item.blk w2.heap.size 153 #[.slice none 0 0], Item.rowT 94 3 (.slice none 0 0) 0 []] := hi
            simp only [List.mem_cons, List.not_mem_nil, or_false] at hi
            rcases hi with rfl | rfl
            · exact hKX
            · exact ⟨rfl, .inl ⟨rfl, rfl⟩⟩
          · show List.Pairwise _ [Item.blk w2.heap.size 153 #[.slice none 0 0], Item.rowT 94 3 (.slice none 0 0) 0 []]
            refine List.pairwise_cons.2 ⟨fun j hj k _ h2 => ?_, List.pairwise_singleton _ _⟩
            simp only [List.mem_cons, List.not_mem_nil, or_false] at hj
            subst hj
            cases h2
        · rintro k ⟨i, hi, ho⟩
          have hi : i ∈ [Item.blk w2.heap.size 153 #[.slice none 0 0], Item.rowT 94 3 (.slice none 0 0) 0 []] := hi
          simp only [List.mem_cons, List.not_mem_nil, or_false] at hi
          rcases hi with rfl | rfl
          · exact Nat.le_of_eq ho.symm
          · cases ho)
      have BX : Hid (Below w.heap.size w X) := Lib.hid (by rw [hX]; exact B2.out.alloc B2.out.size _)
      obtain ⟨C0, hC0⟩ : ∃ C0, C0 = Ch.mk w2.heap.size none 0 [] := ⟨_, rfl⟩
      have HC4 : Hid (∀ l ∈ C0.ls, l.x.v.length ≤ 4096) := Lib.hid (by rw [hC0]; intro l hl; cases hl)
      have HCN : Hid (C0.ls.length ≤ 1099511627775) := Lib.hid (by rw [hC0]; exact Nat.zero_le _)
      rw [← hX, show w2.heap.size = C0.g from by rw [hC0]]
      rw [← hC0] at T4
      have HC0 : Hid (C0.ls = Ch.ofO (getA key.data.toList s.cs)) := Lib.hid (by rw [hC0]; exact HC0.out)
      clear hX hC0 T3 K2 k0 T2
      obtain ⟨b, hb⟩ : ∃ b, b = weightL key.size C0.ls := ⟨_, rfl⟩
      have HB := Lib.hid hb
      have hb43 : b ≤ 4351 := by rw [hb]; exact weightL_le HK1.out HC4.out
      have HW : Hid (Calls Try.prog 111 #[.pointer (some ⟨s.gs, 0, none⟩), .string key] X fun e w' => e = .returned (.int .i64 b) ∧ Below X.heap.size X w') := Lib.hid (by
        have := weight_any (so := some s) (key := key) (HOK.out.o (by omega) (Item.go HP.out BX.out)) hk2
        rw [show St.getO (some s) key = getA key.data.toList s.cs from rfl, ← HC0.out, ← hb] at this
        exact this)
      have y := (show Blk X T 88 #[.string key, .int .i64 st, .slice A vn c, .bool dd] from T4.out.get (i := 1) rfl).cell 0
      simp at y
      clear hb
      go_wp2_with fail
      refine HW.out.mono ?_
      rintro e w4 ⟨rfl, hb4⟩
      have T5 := Lib.hid ((T4.out.go hb4).go (Below.refl _ _).drew)
      have B5 := Lib.hid (BX.out.trans (hb4.mono BX.out.size)).drew
      clear hb4 y HW T4
      go_upto_region 10 with fail
      have KB := Lib.hid (show Blk w4.drew T 88 #[.string key, .int .i64 st, .slice A vn c, .bool dd] from T5.out.get (i := 1) rfl)
      have y0 := KB.out.cell 0
      have y1 := KB.out.cell 1
      have y2 := KB.out.cell 2
      have y3 := KB.out.cell 3
      simp at y0 y1 y2 y3
      have HRD := Lib.hid (HR.out.below B5.out)
      have HVL := Lib.hid (show val.length ≤ 140737488355328 from by have := HVN.out; omega)
      go_region_held3 (fun w' => w'.cell? ⟨T, 0, none⟩ = some (.string key) ∧ w'.cell? ⟨T, 1, none⟩ = some (.int .i64 st) ∧ w'.cell? ⟨T, 2, none⟩ = some (.slice A vn c) ∧ w'.cell? ⟨T, 3, none⟩ = some (.bool dd)) (first | (with_reducible exact ⟨y0, y1, y2, y3⟩) | (with_reducible exact ⟨x0, x1, x2, x3⟩) | (with_reducible exact ⟨z0, z1, z2, z3⟩) | go_keep) (first | (go_at_call 41; refine (stown_n (w := w4.drew) HRD.out HVL.out HVN.out).mono ?_; rintro e w5 ⟨A2, c2, rfl, ho, hb5⟩; have B6 := Lib.hid (B5.out.trans (hb5.mono B5.out.size)); have T6 := Lib.hid (T5.out.more (y := Lk.item ⟨⟨st, val, dd⟩, A2, c2⟩) hb5 (by rw [HVN.out] at ho; exact owns_less ho (Nat.zero_le _)) (fun k hk => (ho.lt (by rw [HVN.out]; exact hk)).1)); have KB5 := Lib.hid (show Blk w5 T 88 #[.string key, .int .i64 st, .slice A vn c, .bool dd] from T6.out.get (i := 2) rfl); have x0 := KB5.out.cell 0; have x1 := KB5.out.cell 1; have x2 := KB5.out.cell 2; have x3 := KB5.out.cell 3; simp at x0 x1 x2 x3; have HLC : Hid (Lk.cells ⟨⟨st, val, dd⟩, A2, c2⟩ = [.int .i64 st, .slice A2 vn c2, .bool dd]) := Lib.hid (by rw [HVN.out]; rfl); clear ho hb5) | (go_at_call 112; refine (cadd_n (w := w5) (h := C0) (T6.out.get (i := 1) rfl) HCN.out ⟨⟨st, val, dd⟩, A2, c2⟩ HLC.out).mono ?_; rintro e w6 ⟨m, rfl, hm⟩; have HM := Lib.hid hm; have KB6 := Lib.hid (show Blk w6 T 88 #[.string key, .int .i64 st, .slice A vn c, .bool dd] from Item.far (x := Item.blk T 88 #[.string key, .int .i64 st, .slice A vn c, .bool dd]) KB5.out (addOut_keeps hm) (fun k hk hk2 => (List.pairwise_cons.1 (List.pairwise_cons.1 T6.out.p.2).2).1 _ (List.mem_cons_self ..) k (core_own hk2) hk)); have z0 := KB6.out.cell 0; have z1 := KB6.out.cell 1; have z2 := KB6.out.cell 2; have z3 := KB6.out.cell 3; simp at z0 z1 z2 z3; clear hm))
      rcases HM.out with ⟨rfl, hbad, hb6⟩ | ⟨rfl, hgood, A', c', t⟩
      · have BE := Lib.hid ((T6.out.k.trans (Keeps.of_below hb6 (fun _ => False)) (fun _ h => h.elim)))
        have e := errOf_130 (l := ⟨⟨st, val, dd⟩, A2, c2⟩) HBAD.out HC0.out rfl HST.out.1 hbad
        have BB := Lib.hid (B6.out.trans (hb6.mono B6.out.size))
        clear HM hbad hb6
        go_wp2
        go_ret
        exact ⟨by rw [e]; rfl, .inl ⟨by rw [e]; decide, BB.out⟩⟩
      · have e := errOf_0 (l := ⟨⟨st, val, dd⟩, A2, c2⟩) HBAD.out HC0.out rfl hgood
        have HE := Lib.hid e
        have T7 := Lib.hid (T6.out.trans (add_pieces (h := C0) (h' := ⟨C0.g, A', c', C0.ls ++ [⟨⟨st, val, dd⟩, A2, c2⟩]⟩) (l := ⟨⟨st, val, dd⟩, A2, c2⟩) rfl T6.out.p t))
        obtain ⟨C1, hC1⟩ : ∃ C1, C1 = Ch.mk C0.g A' c' (C0.ls ++ [⟨⟨st, val, dd⟩, A2, c2⟩]) := ⟨_, rfl⟩
        have HC1 := Lib.hid hC1
        rw [← hC1] at T7
        have m0 := (show Blk w6 s.gs 106 #[.map (some s.gm), .int .i64 s.live] from T7.out.get (i := 2) rfl).cell 0
        simp at m0
        clear HM hgood t e hC1 x0 x1 x2 x3 y0 y1 y2 y3
        go_upto_region 15 with fail
        have hmp : (Item.map s.gm (mapA Ch.g s.cs)).P w6.drew := (T7.out.go (Below.refl _ _).drew).get (i := 3) rfl
        obtain ⟨w7, hrun, hown7, hgr7⟩ := World.ownsMap.update (w := w6.drew) hmp (Go.Maps.string_keyed Try.underlying9) Try.underlying104 (n := (mapA Ch.g s.cs).length) (by
          have := HOK.out.many
          unfold mapA maxLen; rw [List.length_map]; omega) (key := .string key) (val := .pointer (some ⟨C0.g, 0, none⟩)) (WideMaps.keyOf_string_mk Try.underlying9 hks) (d := .lit (.int .i64 C0.g)) (ps := []) rfl
        rw [dS_put] at hown7
        have T8 := Lib.hid ((T7.out.go (Below.refl _ _).drew).step (i := 3) rfl (map_turn (w := w6.drew) (w' := w7) hmp hown7 hgr7))
        clear hown7 hgr7 hmp
        go_region
        clear hrun m0
        have hg1 : C1.g = C0.g := by rw [HC1.out]
        have T9 : Hid (Turn s.item w (Item.all (C1.item :: Item.blk T 88 #[.string key, .int .i64 st, .slice A vn c, .bool dd] :: Item.blk s.gs 106 #[.map (some s.gm), .int .i64 s.live] :: Item.map s.gm (mapA Ch.g (putA key.data.toList C1 s.cs)) :: s.rest key.data.toList)) w7) := Lib.hid (by
          have := T8.out
          rw [← hg1, ← putA_map] at this
          exact this)
        have hls : C1.ls = Ch.ofO (getA key.data.toList s.cs) ++ [⟨⟨st, val, dd⟩, A2, c2⟩] := by rw [HC1.out, ← HC0.out]
        have HLS := Lib.hid hls
        obtain ⟨lvn, hlvn⟩ : ∃ x, x = liveN (putA key.data.toList C1 s.cs) := ⟨_, rfl⟩
        have OK2 := Lib.hid (ok_put (s := s) (N := N) HOK.out (k := key.data.toList) (c := C1) (l := ⟨⟨st, val, dd⟩, A2, c2⟩) (lv := (lvn : Nat)) HK1.out hls (by have := HVN.out; show val.length ≤ 4096; omega) (by rw [hlvn]))
        obtain ⟨a, ha⟩ : ∃ a, a = weightL key.size C1.ls := ⟨_, rfl⟩
        have ha43 : a ≤ 4351 := by
          rw [ha]
          exact weightL_le HK1.out (fun l hl => (OK2.out.each _ (getA_mem getA_put)).2.2.2 l hl)
        have HW2 : Hid (Calls Try.prog 111 #[.pointer (some ⟨s.gs, 0, none⟩), .string key] w7.drew fun e w' => e = .returned (.int .i64 a) ∧ Below w7.heap.size w7.drew w') := Lib.hid (by
          have hp2 : (St.item ⟨s.gs, s.gm, s.live, putA key.data.toList C1 s.cs⟩).P w7.drew := ((T9.out.sameR join_put).go (Below.refl _ _).drew).get (i := 1) rfl
          have := weight_any (w := w7.drew) (so := some ⟨s.gs, s.gm, s.live, putA key.data.toList C1 s.cs⟩) (key := key) ⟨hp2, fun p hp => by
            obtain ⟨_, _, h3, h4⟩ := OK2.out.each p hp
            exact ⟨by omega, h4⟩⟩ hk2
          rw [show St.getO (some ⟨s.gs, s.gm, s.live, putA key.data.toList C1 s.cs⟩) key = getA key.data.toList (putA key.data.toList C1 s.cs) from rfl, getA_put, show Ch.ofO (some C1) = C1.ls from rfl, ← ha] at this
          exact this)
        have hO1 := liveN_get (k := key.data.toList) HOK.out.apart
        have hO2 := liveN_put (cs := s.cs) (k := key.data.toList) (c := C1)
        rw [show key.data.toList.length = key.size from rfl, ← HC0.out, ← HB.out] at hO1
        rw [show key.data.toList.length = key.size from rfl, ← ha, ← hlvn] at hO2
        have hlv0 := HOK.out.live
        have hlvb := liveN_le (cs := s.cs) (fun p hp => ⟨(HOK.out.each p hp).1, (HOK.out.each p hp).2.2.2⟩)
        have hmany := HOK.out.many
        have hlvs : s.live + ((a : Int) - (b : Int)) = (lvn : Int) := by rw [hlv0]; omega
        have hlv1 : 0 ≤ s.live ∧ s.live ≤ 4785074604081152 := by rw [hlv0]; omega
        obtain ⟨lvo, hlvo⟩ : ∃ x, x = s.live := ⟨_, rfl⟩
        rw [← hlvo] at hlvs hlv1 T9
        have HWR := Lib.hid (show IntKind.i64.wrap (lvo + IntKind.i64.wrap ((a : Int) - (b : Int))) = (lvn : Int) from by
          rw [show IntKind.i64.wrap ((a : Int) - (b : Int)) = (a : Int) - (b : Int) from by rw [IntKind.wrap_i64]; omega, IntKind.wrap_i64]; omega)
        have KBS := Lib.hid (show Blk w7 s.gs 106 #[.map (some s.gm), .int .i64 lvo] from T9.out.get (i := 2) rfl)
        have KBX := Lib.hid (show Blk w7 T 88 #[.string key, .int .i64 st, .slice A vn c, .bool dd] from T9.out.get (i := 1) rfl)
        have y1 : w7.drew.cell? ⟨s.gs, 1, none⟩ = some (.int .i64 lvo) := by have := KBS.out.cell 1; simpa using this
        have yf : w7.drew.frozen? ⟨s.gs, 1, none⟩ = false := KBS.out.frozen 1
        have y0 : w7.drew.cell? ⟨T, 0, none⟩ = some (.string key) := by have := KBX.out.cell 0; simpa using this
        obtain ⟨hlva, hlvc⟩ := hlv1
        have TT : Hid (∀ (w8 : World) (z : Int), Below w7.heap.size w7 w8 → z = (lvn : Nat) → Turn s.item w (St.item ⟨s.gs, s.gm, (lvn : Nat), putA key.data.toList C1 s.cs⟩) (w8.setCell ⟨s.gs, 1, none⟩ (.int .i64 z))) := Lib.hid (fun w8 z hb e => by
          subst e
          have t1 := T9.out.go hb
          have t2 := t1.step (i := 2) rfl (Turn.cell (show Blk w8 s.gs 106 #[.map (some s.gm), .int .i64 lvo] from t1.get (i := 2) rfl) 1 (.int .i64 ((lvn : Nat) : Int)))
          have t3 := t2.sameR (join_put (lv := (lvn : Nat)))
          exact (t3.sub (M := [St.item ⟨s.gs, s.gm, (lvn : Nat), putA key.data.toList C1 s.cs⟩]) (List.Sublist.cons _ (List.Sublist.refl _))).sameR same_one)
        clear hg1 T8 hls hlvn ha hO1 hO2 hlv0 hlvb hmany hlvs hlvo z0 z1 z2 z3
        go_upto_region 16 with fail
        go_region_law ((go_simp; go_at_call 111; refine HW2.out.mono ?_; rintro e w8 ⟨rfl, hb8⟩; have HB8 := Lib.hid (show Below w7.heap.size w7 w8 from ⟨hb8.os, hb8.tape, hb8.output, hb8.size, hb8.block⟩); have x1 := (hb8.cell (p := ⟨s.gs, 1, none⟩) KBS.out.lt).trans y1; have xf := (hb8.frozen (p := ⟨s.gs, 1, none⟩) KBS.out.lt).trans yf; have x0 := (hb8.cell (p := ⟨T, 0, none⟩) KBX.out.lt).trans y0; clear hb8))
        all_goals clear y0 y1 yf
        all_goals go_wp2
        all_goals go_ret
        all_goals refine ⟨by rw [HE.out]; rfl, Or.inr ⟨HE.out, C1, ⟨⟨st, val, dd⟩, A2, c2⟩, (lvn : Nat), HLS.out, rfl, OK2.out, ?_⟩⟩
        all_goals exact TT.out _ _ HB8.out HWR.out
    | some C0 =>
      rw [hg, show ptrC (some C0) = .pointer (some ⟨C0.g, 0, none⟩) from rfl] at HOF
      have HG := Lib.hid hg
      have T3 := Lib.hid (T2.out.sameR (split_some HOK.out.apart hg))
      have HC0 : Hid (C0.ls = Ch.ofO (getA key.data.toList s.cs)) := Lib.hid (by rw [hg]; rfl)
      clear hg
      go_wp2_with fail
      refine HOF.out.mono ?_
      rintro e w3 ⟨rfl, rfl⟩
      go_upto_region 9 with fail
      obtain ⟨X, hX⟩ : ∃ X, X = w2 := ⟨_, rfl⟩
      have HC4 : Hid (∀ l ∈ C0.ls, l.x.v.length ≤ 4096) := Lib.hid (fun l hl => (HOK.out.each _ (getA_mem HG.out)).2.2.2 l hl)
      have HCN : Hid (C0.ls.length ≤ 1099511627775) := Lib.hid (Nat.le_trans (HOK.out.each _ (getA_mem HG.out)).2.2.1 hN)
      rw [← hX] at T3 B2 ⊢
      have T4 := T3
      have BX := B2
      clear hX T3 K2 k0 T2
      obtain ⟨b, hb⟩ : ∃ b, b = weightL key.size C0.ls := ⟨_, rfl⟩
      have HB := Lib.hid hb
      have hb43 : b ≤ 4351 := by rw [hb]; exact weightL_le HK1.out HC4.out
      have HW : Hid (Calls Try.prog 111 #[.pointer (some ⟨s.gs, 0, none⟩), .string key] X fun e w' => e = .returned (.int .i64 b) ∧ Below X.heap.size X w') := Lib.hid (by
        have := weight_any (so := some s) (key := key) (HOK.out.o (by omega) (Item.go HP.out BX.out)) hk2
        rw [show St.getO (some s) key = getA key.data.toList s.cs from rfl, ← HC0.out, ← hb] at this
        exact this)
      have y := (show Blk X T 88 #[.string key, .int .i64 st, .slice A vn c, .bool dd] from T4.out.get (i := 1) rfl).cell 0
      simp at y
      clear hb
      go_wp2_with fail
      refine HW.out.mono ?_
      rintro e w4 ⟨rfl, hb4⟩
      have T5 := Lib.hid ((T4.out.go hb4).go (Below.refl _ _).drew)
      have B5 := Lib.hid (BX.out.trans (hb4.mono BX.out.size)).drew
      clear hb4 y HW T4
      go_upto_region 10 with fail
      have KB := Lib.hid (show Blk w4.drew T 88 #[.string key, .int .i64 st, .slice A vn c, .bool dd] from T5.out.get (i := 1) rfl)
      have y0 := KB.out.cell 0
      have y1 := KB.out.cell 1
      have y2 := KB.out.cell 2
      have y3 := KB.out.cell 3
      simp at y0 y1 y2 y3
      have HRD := Lib.hid (HR.out.below B5.out)
      have HVL := Lib.hid (show val.length ≤ 140737488355328 from by have := HVN.out; omega)
      go_region_held3 (fun w' => w'.cell? ⟨T, 0, none⟩ = some (.string key) ∧ w'.cell? ⟨T, 1, none⟩ = some (.int .i64 st) ∧ w'.cell? ⟨T, 2, none⟩ = some (.slice A vn c) ∧ w'.cell? ⟨T, 3, none⟩ = some (.bool dd)) (first | (with_reducible exact ⟨y0, y1, y2, y3⟩) | (with_reducible exact ⟨x0, x1, x2, x3⟩) | (with_reducible exact ⟨z0, z1, z2, z3⟩) | go_keep) (first | (go_at_call 41; refine (stown_n (w := w4.drew) HRD.out HVL.out HVN.out).mono ?_; rintro e w5 ⟨A2, c2, rfl, ho, hb5⟩; have B6 := Lib.hid (B5.out.trans (hb5.mono B5.out.size)); have T6 := Lib.hid (T5.out.more (y := Lk.item ⟨⟨st, val, dd⟩, A2, c2⟩) hb5 (by rw [HVN.out] at ho; exact owns_less ho (Nat.zero_le _)) (fun k hk => (ho.lt (by rw [HVN.out]; exact hk)).1)); have KB5 := Lib.hid (show Blk w5 T 88 #[.string key, .int .i64 st, .slice A vn c, .bool dd] from T6.out.get (i := 2) rfl); have x0 := KB5.out.cell 0; have x1 := KB5.out.cell 1; have x2 := KB5.out.cell 2; have x3 := KB5.out.cell 3; simp at x0 x1 x2 x3; have HLC : Hid (Lk.cells ⟨⟨st, val, dd⟩, A2, c2⟩ = [.int .i64 st, .slice A2 vn c2, .bool dd]) := Lib.hid (by rw [HVN.out]; rfl); clear ho hb5) | (go_at_call 112; refine (cadd_n (w := w5) (h := C0) (T6.out.get (i := 1) rfl) HCN.out ⟨⟨st, val, dd⟩, A2, c2⟩ HLC.out).mono ?_; rintro e w6 ⟨m, rfl, hm⟩; have HM := Lib.hid hm; have KB6 := Lib.hid (show Blk w6 T 88 #[.string key, .int .i64 st, .slice A vn c, .bool dd] from Item.far (x := Item.blk T 88 #[.string key, .int .i64 st, .slice A vn c, .bool dd]) KB5.out (addOut_keeps hm) (fun k hk hk2 => (List.pairwise_cons.1 (List.pairwise_cons.1 T6.out.p.2).2).1 _ (List.mem_cons_self ..) k (core_own hk2) hk)); have z0 := KB6.out.cell 0; have z1 := KB6.out.cell 1; have z2 := KB6.out.cell 2; have z3 := KB6.out.cell 3; simp at z0 z1 z2 z3; clear hm))
      rcases HM.out with ⟨rfl, hbad, hb6⟩ | ⟨rfl, hgood, A', c', t⟩
      · have BE := Lib.hid ((T6.out.k.trans (Keeps.of_below hb6 (fun _ => False)) (fun _ h => h.elim)))
        have e := errOf_130 (l := ⟨⟨st, val, dd⟩, A2, c2⟩) HBAD.out HC0.out rfl HST.out.1 hbad
        have BB := Lib.hid (B6.out.trans (hb6.mono B6.out.size))
        clear HM hbad hb6
        go_wp2
        go_ret
        exact ⟨by rw [e]; rfl, .inl ⟨by rw [e]; decide, BB.out⟩⟩
      · have e := errOf_0 (l := ⟨⟨st, val, dd⟩, A2, c2⟩) HBAD.out HC0.out rfl hgood
        have HE := Lib.hid e
        have T7 := Lib.hid (T6.out.trans (add_pieces (h := C0) (h' := ⟨C0.g, A', c', C0.ls ++ [⟨⟨st, val, dd⟩, A2, c2⟩]⟩) (l := ⟨⟨st, val, dd⟩, A2, c2⟩) rfl T6.out.p t))
        obtain ⟨C1, hC1⟩ : ∃ C1, C1 = Ch.mk C0.g A' c' (C0.ls ++ [⟨⟨st, val, dd⟩, A2, c2⟩]) := ⟨_, rfl⟩
        have HC1 := Lib.hid hC1
        rw [← hC1] at T7
        have m0 := (show Blk w6 s.gs 106 #[.map (some s.gm), .int .i64 s.live] from T7.out.get (i := 2) rfl).cell 0
        simp at m0
        clear HM hgood t e hC1 x0 x1 x2 x3 y0 y1 y2 y3
        go_upto_region 15 with fail
        have hmp : (Item.map s.gm (mapA Ch.g s.cs)).P w6.drew := (T7.out.go (Below.refl _ _).drew).get (i := 3) rfl
        obtain ⟨w7, hrun, hown7, hgr7⟩ := World.ownsMap.update (w := w6.drew) hmp (Go.Maps.string_keyed Try.underlying9) Try.underlying104 (n := (mapA Ch.g s.cs).length) (by
          have := HOK.out.many
          unfold mapA maxLen; rw [List.length_map]; omega) (key := .string key) (val := .pointer (some ⟨C0.g, 0, none⟩)) (WideMaps.keyOf_string_mk Try.underlying9 hks) (d := .lit (.int .i64 C0.g)) (ps := []) rfl
        rw [dS_put] at hown7
        have T8 := Lib.hid ((T7.out.go (Below.refl _ _).drew).step (i := 3) rfl (map_turn (w := w6.drew) (w' := w7) hmp hown7 hgr7))
        clear hown7 hgr7 hmp
        go_region
        clear hrun m0
        have hg1 : C1.g = C0.g := by rw [HC1.out]
        have T9 : Hid (Turn s.item w (Item.all (C1.item :: Item.blk T 88 #[.string key, .int .i64 st, .slice A vn c, .bool dd] :: Item.blk s.gs 106 #[.map (some s.gm), .int .i64 s.live] :: Item.map s.gm (mapA Ch.g (putA key.data.toList C1 s.cs)) :: s.rest key.data.toList)) w7) := Lib.hid (by
          have := T8.out
          rw [← hg1, ← putA_map] at this
          exact this)
        have hls : C1.ls = Ch.ofO (getA key.data.toList s.cs) ++ [⟨⟨st, val, dd⟩, A2, c2⟩] := by rw [HC1.out, ← HC0.out]
        have HLS := Lib.hid hls
        obtain ⟨lvn, hlvn⟩ : ∃ x, x = liveN (putA key.data.toList C1 s.cs) := ⟨_, rfl⟩
        have OK2 := Lib.hid (ok_put (s := s) (N := N) HOK.out (k := key.data.toList) (c := C1) (l := ⟨⟨st, val, dd⟩, A2, c2⟩) (lv := (lvn : Nat)) HK1.out hls (by have := HVN.out; show val.length ≤ 4096; omega) (by rw [hlvn]))
        obtain ⟨a, ha⟩ : ∃ a, a = weightL key.size C1.ls := ⟨_, rfl⟩
        have ha43 : a ≤ 4351 := by
          rw [ha]
          exact weightL_le HK1.out (fun l hl => (OK2.out.each _ (getA_mem getA_put)).2.2.2 l hl)
        have HW2 : Hid (Calls Try.prog 111 #[.pointer (some ⟨s.gs, 0, none⟩), .string key] w7.drew fun e w' => e = .returned (.int .i64 a) ∧ Below w7.heap.size w7.drew w') := Lib.hid (by
          have hp2 : (St.item ⟨s.gs, s.gm, s.live, putA key.data.toList C1 s.cs⟩).P w7.drew := ((T9.out.sameR join_put).go (Below.refl _ _).drew).get (i := 1) rfl
          have := weight_any (w := w7.drew) (so := some ⟨s.gs, s.gm, s.live, putA key.data.toList C1 s.cs⟩) (key := key) ⟨hp2, fun p hp => by
            obtain ⟨_, _, h3, h4⟩ := OK2.out.each p hp
            exact ⟨by omega, h4⟩⟩ hk2
          rw [show St.getO (some ⟨s.gs, s.gm, s.live, putA key.data.toList C1 s.cs⟩) key = getA key.data.toList (putA key.data.toList C1 s.cs) from rfl, getA_put, show Ch.ofO (some C1) = C1.ls from rfl, ← ha] at this
          exact this)
        have hO1 := liveN_get (k := key.data.toList) HOK.out.apart
        have hO2 := liveN_put (cs := s.cs) (k := key.data.toList) (c := C1)
        rw [show key.data.toList.length = key.size from rfl, ← HC0.out, ← HB.out] at hO1
        rw [show key.data.toList.length = key.size from rfl, ← ha, ← hlvn] at hO2
        have hlv0 := HOK.out.live
        have hlvb := liveN_le (cs := s.cs) (fun p hp => ⟨(HOK.out.each p hp).1, (HOK.out.each p hp).2.2.2⟩)
        have hmany := HOK.out.many
        have hlvs : s.live + ((a : Int) - (b : Int)) = (lvn : Int) := by rw [hlv0]; omega
        have hlv1 : 0 ≤ s.live ∧ s.live ≤ 4785074604081152 := by rw [hlv0]; omega
        obtain ⟨lvo, hlvo⟩ : ∃ x, x = s.live := ⟨_, rfl⟩
        rw [← hlvo] at hlvs hlv1 T9
        have HWR := Lib.hid (show IntKind.i64.wrap (lvo + IntKind.i64.wrap ((a : Int) - (b : Int))) = (lvn : Int) from by
          rw [show IntKind.i64.wrap ((a : Int) - (b : Int)) = (a : Int) - (b : Int) from by rw [IntKind.wrap_i64]; omega, IntKind.wrap_i64]; omega)
        have KBS := Lib.hid (show Blk w7 s.gs 106 #[.map (some s.gm), .int .i64 lvo] from T9.out.get (i := 2) rfl)
        have KBX := Lib.hid (show Blk w7 T 88 #[.string key, .int .i64 st, .slice A vn c, .bool dd] from T9.out.get (i := 1) rfl)
        have y1 : w7.drew.cell? ⟨s.gs, 1, none⟩ = some (.int .i64 lvo) := by have := KBS.out.cell 1; simpa using this
        have yf : w7.drew.frozen? ⟨s.gs, 1, none⟩ = false := KBS.out.frozen 1
        have y0 : w7.drew.cell? ⟨T, 0, none⟩ = some (.string key) := by have := KBX.out.cell 0; simpa using this
        obtain ⟨hlva, hlvc⟩ := hlv1
        have TT : Hid (∀ (w8 : World) (z : Int), Below w7.heap.size w7 w8 → z = (lvn : Nat) → Turn s.item w (St.item ⟨s.gs, s.gm, (lvn : Nat), putA key.data.toList C1 s.cs⟩) (w8.setCell ⟨s.gs, 1, none⟩ (.int .i64 z))) := Lib.hid (fun w8 z hb e => by
          subst e
          have t1 := T9.out.go hb
          have t2 := t1.step (i := 2) rfl (Turn.cell (show Blk w8 s.gs 106 #[.map (some s.gm), .int .i64 lvo] from t1.get (i := 2) rfl) 1 (.int .i64 ((lvn : Nat) : Int)))
          have t3 := t2.sameR (join_put (lv := (lvn : Nat)))
          exact (t3.sub (M := [St.item ⟨s.gs, s.gm, (lvn : Nat), putA key.data.toList C1 s.cs⟩]) (List.Sublist.cons _ (List.Sublist.refl _))).sameR same_one)
        clear hg1 T8 hls hlvn ha hO1 hO2 hlv0 hlvb hmany hlvs hlvo z0 z1 z2 z3
        go_upto_region 16 with fail
        go_region_law ((go_simp; go_at_call 111; refine HW2.out.mono ?_; rintro e w8 ⟨rfl, hb8⟩; have HB8 := Lib.hid (show Below w7.heap.size w7 w8 from ⟨hb8.os, hb8.tape, hb8.output, hb8.size, hb8.block⟩); have x1 := (hb8.cell (p := ⟨s.gs, 1, none⟩) KBS.out.lt).trans y1; have xf := (hb8.frozen (p := ⟨s.gs, 1, none⟩) KBS.out.lt).trans yf; have x0 := (hb8.cell (p := ⟨T, 0, none⟩) KBX.out.lt).trans y0; clear hb8))
        all_goals clear y0 y1 yf
        all_goals go_wp2
        all_goals go_ret
        all_goals refine ⟨by rw [HE.out]; rfl, Or.inr ⟨HE.out, C1, ⟨⟨st, val, dd⟩, A2, c2⟩, (lvn : Nat), HLS.out, rfl, OK2.out, ?_⟩⟩
        all_goals exact TT.out _ _ HB8.out HWR.out
end Go.Proofs.Ytmnpchncmbnddaa
/- Clocks: New, Now, Worn, Next, by contract. -/
namespace Go.Proofs.Ytmnpchncmbnddaa
open Go.RowKit

end Go.Proofs.Ytmnpchncmbnddaa
/- Commits: fits, anyAbove, Conflict, by contract. -/
namespace Go.Proofs.Ytmnpchncmbnddaa
open Go.RowKit

theorem vn_at {w : World} {B : Nat} {A : Option Addr} {l : List Vn} (h : kVn.Sl w B A l) {i : Nat} (hi : i < l.length) :
    ∃ b off A' c', A = some ⟨b, off, none⟩ ∧ b < B ∧ (l[i]).ints ∧ w.cell? ⟨b, off + i * 4, none⟩ = some (.string (l[i]).key) ∧ w.cell? ⟨b, off + i * 4 + 1, none⟩ = some (.int .i64 (l[i]).stamp) ∧
      w.cell? ⟨b, off + i * 4 + 2, none⟩ = some (.slice A' (l[i]).value.length c') ∧ w.cell? ⟨b, off + i * 4 + 3, none⟩ = some (.bool (l[i]).dead) ∧ BReads w B A' (l[i]).value ∧ (l[i]).value.length ≤ c' := by
  obtain ⟨b, off, hA, hb, hr⟩ := h (by omega)
  obtain ⟨cs, hR, hc⟩ := hr i _ (List.getElem?_eq_getElem hi)
  obtain ⟨A', c', rfl, h1, h2, h3⟩ := vn_R hR
  exact ⟨b, off, A', c', hA, hb, h1, hc 0 _ rfl, hc 1 _ rfl, hc 2 _ rfl, hc 3 _ rfl, h2, h3⟩
end Go.Proofs.Ytmnpchncmbnddaa
/- Commits: may, by contract. -/
namespace Go.Proofs.Ytmnpchncmbnddaa
open Go.RowKit

def leB (a b : ByteArray) : Bool := Op.bytesLess a.toList b.toList || a.toList == b.toList
end Go.Proofs.Ytmnpchncmbnddaa
/- Commits: asked, by contract. -/
namespace Go.Proofs.Ytmnpchncmbnddaa
open Go.RowKit

end Go.Proofs.Ytmnpchncmbnddaa
/- Commits: Entries, by contract. -/
namespace Go.Proofs.Ytmnpchncmbnddaa
open Go.RowKit

end Go.Proofs.Ytmnpchncmbnddaa
/- Commits: what the writes that are not refused are (no program). -/
namespace Go.Proofs.Ytmnpchncmbnddaa
open Go.RowKit

theorem bytesLess_eq : ∀ a b : List UInt8, Op.bytesLess a b = bytesBefore a b
  | [], [] => rfl
  | [], _ :: _ => rfl
  | _ :: _, [] => rfl
  | a :: x, b :: y => by simp only [Op.bytesLess, bytesBefore]; rw [bytesLess_eq x y]
theorem bB_trans {a b c : Key} (h : bytesBefore a b = true) (h' : bytesBefore b c = true) : bytesBefore a c = true :=
  WideShapes.before_trans (a := .string a) (b := .string b) (c := .string c) h h'
theorem bB_irrefl (a : Key) : bytesBefore a a = false := WideShapes.before_irrefl (.string a)
theorem bB_total : ∀ {a b : Key}, a ≠ b → bytesBefore a b = true ∨ bytesBefore b a = true
  | [], [], h => absurd rfl h
  | [], _ :: _, _ => .inl rfl
  | _ :: _, [], _ => .inr rfl
  | a :: x, b :: y, h => by
    simp only [bytesBefore, Bool.or_eq_true, decide_eq_true_eq, Bool.and_eq_true, beq_iff_eq]
    by_cases hab : a = b
    · subst hab
      have hxy : x ≠ y := fun e => h (by rw [e])
      rcases bB_total hxy with h1 | h1
      · exact .inl (.inr ⟨rfl, h1⟩)
      · exact .inr (.inr ⟨rfl, h1⟩)
    · rcases Nat.lt_or_ge a.toNat b.toNat with h1 | h1
      · exact .inl (.inl h1)
      · refine .inr (.inl ?_)
        have : a.toNat ≠ b.toNat := fun e => hab (UInt8.toNat_inj.1 e)
        show b.toNat < a.toNat
        omega
def Vn.k (v : Vn) : Key := v.key.data.toList
/-- A store, plainly: of each key its versions. -/
abbrev PS := List (Key × List Lv)
def ofP (S : PS) (k : Key) : List Lv := (getA k S).getD []
def applyP (S : PS) (v : Vn) : PS := putA v.k (ofP S v.k ++ [⟨v.stamp, v.value, v.dead⟩]) S
theorem ofO_vs (s : St) (k : Key) : (Ch.ofO (getA k s.cs)).map Lk.x = ofP s.view k := by
  unfold ofP St.view
  rw [getA_map]
  cases getA k s.cs <;> rfl
theorem view_put {s : St} {v : Vn} {c : Ch} {l : Lk} {lv : Int} (hc : c.ls = Ch.ofO (getA v.k s.cs) ++ [l]) (hl : l.x = ⟨v.stamp, v.value, v.dead⟩) : St.view ⟨s.gs, s.gm, lv, putA v.k c s.cs⟩ = applyP s.view v := by
  unfold St.view applyP
  rw [putA_map]
  congr 1
  show c.ls.map Lk.x = _
  rw [hc, List.map_append, ofO_vs, List.map_singleton, hl]; rfl
theorem of_put_other {S : PS} {k k' : Key} {b : List Lv} (h : k ≠ k') : ofP (putA k b S) k' = ofP S k' := by
  have : getA k' (putA k b S) = getA k' S := by
    unfold putA
    have h1 : ∀ L : List (Key × List Lv), getA k' (insA (k, b) L) = getA k' L := by
      intro L
      induction L with
      | nil => unfold insA getA; simp [h]
      | cons y r ih =>
        unfold insA
        split
        · unfold getA; rw [List.find?_cons_of_neg (by simpa using h)]
        · unfold getA at ih ⊢
          by_cases hy : y.1 = k'
          · rw [List.find?_cons_of_pos (by simpa using hy), List.find?_cons_of_pos (by simpa using hy)]
          · rw [List.find?_cons_of_neg (by simpa using hy), List.find?_cons_of_neg (by simpa using hy)]; exact ih
    rw [h1]
    unfold othersA
    induction S with
    | nil => rfl
    | cons y r ih =>
      by_cases hy : y.1 = k
      · rw [List.filter_cons_of_neg (by simpa using hy), ih]
        unfold getA
        rw [List.find?_cons_of_neg (by simp [hy, h])]
      · rw [List.filter_cons_of_pos (by simpa using hy)]
        unfold getA at ih ⊢
        by_cases hy' : y.1 = k'
        · rw [List.find?_cons_of_pos (by simpa using hy'), List.find?_cons_of_pos (by simpa using hy')]
        · rw [List.find?_cons_of_neg (by simpa using hy'), List.find?_cons_of_neg (by simpa using hy')]; exact ih
  unfold ofP
  rw [this]
theorem of_put_same {S : PS} {k : Key} {b : List Lv} : ofP (putA k b S) k = b := by
  unfold ofP
  rw [getA_put]; rfl
end Go.Proofs.Ytmnpchncmbnddaa
/- Commits: Do, by contract. -/
namespace Go.Proofs.Ytmnpchncmbnddaa
open Go.RowKit

/-- The newest of versions. -/
def lastP (L : List Lv) : Int := (L.getLast?.map Lv.st).getD 0
theorem lastL_vs (ls : List Lk) : (lastL ls).x.st = lastP (ls.map Lk.x) := by
  unfold lastL lastP
  rw [List.getLast?_map]
  cases ls.getLast? <;> rfl
end Go.Proofs.Ytmnpchncmbnddaa
/- The laws' walFixed, by contract: a row of calls whose answers are fixed. -/
namespace Go.Proofs.Ytmnpchncmbnddaa
open Go.RowKit

end Go.Proofs.Ytmnpchncmbnddaa
/- Law 19: the references' New, by contract. -/
namespace Go.Proofs.Ytmnpchncmbnddaa
open Go.RowKit

/-- Pieces in another order. -/
theorem Turn.by_ {a : Item} {w w' : World} {L : List Item} (t : Turn a w (Item.all L) w') (n : Nat) (hn : L.length = n) (is : List Nat) (h : is.Perm (List.range n)) : Turn a w (Item.all (is.map fun i => L.getD i Item.none)) w' := by
  subst hn
  refine t.permR ?_
  have := (h.map fun i => L.getD i Item.none).symm
  rwa [show (List.range L.length).map (fun i => L.getD i Item.none) = L from List.ext_getElem (by simp) (fun i h1 h2 => by simp at h1 h2 ⊢; rw [List.getElem?_eq_getElem h2]; rfl)] at this
end Go.Proofs.Ytmnpchncmbnddaa
/- Laws of layer 19: versions as pieces of memory; Do where pieces lie beside it; awake. -/
namespace Go.Proofs.Ytmnpchncmbnddaa
open Go.RowKit

/-- A version, and where its value lies. -/
structure Hv where
  x : Vn
  A : Option Addr
  c : Nat
def hvCells (ts : List Hv) : List Value := ts.flatMap fun t => (t.x.cells t.A t.c).toList
def hvRows (ts : List Hv) : List Item := ts.map fun t => Item.row (.slice t.A t.x.value.length t.c) t.x.value
section
variable {w : World} {x : Item} {rest : List Item} {A : Option Addr} {c n : Nat} {ts : List Hv}
theorem slv_of_row {B : Nat} (h : (Item.rowT 88 4 (.slice A n c) n (hvCells ts)).P w) (hn : n = ts.length) (hB : ∀ k, (Value.slice A n c).ownBlock = some k → k < B) (hv : ∀ t ∈ ts, t.x.ints ∧ BReads w B t.A t.x.value ∧ t.x.value.length ≤ t.c) : kVn.Sl w B A (ts.map Hv.x) := by
  intro hl
  rw [List.length_map] at hl
  have h' : w.ownsRow 0 88 4 (.slice A n c) n (hvCells ts) := h
  rcases h'.2 with ⟨h2, h3⟩ | ⟨g, cap, cur, hv1, _, hh, h4, h5, h6, h7⟩
  · omega
  injection hv1 with hv1
  subst hv1
  refine ⟨g, 0, rfl, hB g rfl, fun j x hx => ?_⟩
  rw [List.getElem?_map] at hx
  obtain ⟨t, ht, rfl⟩ := Option.map_eq_some_iff.1 hx
  have hm := List.mem_of_getElem? ht
  obtain ⟨⟨s1, s2⟩, hr, hcap⟩ := hv t hm
  refine ⟨(t.x.cells t.A t.c).toList, ?_, fun i u hu => ?_⟩
  · have wf : ∀ z : Int, -9223372036854775808 ≤ z → z ≤ 9223372036854775807 → (Lit.int .i64 z).wf = true := fun z h1 h2 => by simp [Lit.wf, IntKind.min, IntKind.max, IntKind.signed, IntKind.bits]; omega
    exact ⟨[_], _, rfl, rfl, [_], _, rfl, ⟨rfl, wf _ s1 s2⟩, [_], [_], rfl, ⟨t.A, t.c, rfl, hcap, hr⟩, rfl⟩
  · have hj : j < ts.length := (List.getElem?_eq_some_iff.1 ht).1
    have hi : i < 4 := (List.getElem?_eq_some_iff.1 hu).1
    have e1 : (hvCells ts)[j * 4 + i]? = some u := by
      unfold hvCells
      rw [List.flatMap_def]
      have := flat_get (L := ts.map fun t => (t.x.cells t.A t.c).toList) (n := 4) (i := j) (j := i) (x := (t.x.cells t.A t.c).toList) (fun x hx => by obtain ⟨t', _, rfl⟩ := List.mem_map.1 hx; rfl) (by rw [List.getElem?_map, ht]; rfl) hi
      rw [this]; exact hu
    have hlt : j * 4 + i < n * 4 := by omega
    rw [← h7, List.getElem?_take_of_lt hlt] at e1
    show w.cell? ⟨g, 0 + j * 4 + i, none⟩ = some u
    rw [Nat.zero_add]
    unfold World.cell?
    simp only [hh]
    simpa using e1
end
/-- The bytes of a constant, in a block of their own. -/
def Item.lit (g : Nat) (l : List UInt8) : Item where
  own := fun k => k = g
  P := fun w => ∃ fr, w.heap[g]? = some (.cells (bys l).toArray 5 fr)
  keep := fun ⟨fr, h⟩ hk => ⟨fr, (hk g rfl).trans h⟩
  lt := fun {w k} ⟨fr, h⟩ e => by
    subst e
    rcases Nat.lt_or_ge k w.heap.size with hlt | hge
    · exact hlt
    · rw [Array.getElem?_eq_none hge] at h; cases h
section
variable {a : Item} {w0 w : World} {s : St} {gc : Nat} {now wd : Int} {gl g gp : Nat} {p : Pt} {N : Nat} {rest : List Item} {A : Option Addr} {c : Nat} {l : List Vn} {since : Int}
end
/-! What the calls of awake answer. -/
def awA : Vn := ⟨⟨#[97]⟩, 0, [49], false⟩
def awB : Vn := ⟨⟨#[98]⟩, 0, [50], false⟩
instance : Decidable awA.ints := by unfold Vn.ints; infer_instance
instance : Decidable awB.ints := by unfold Vn.ints; infer_instance
section
variable {w0 w : World} {s : St} {now since : Int} {gs gc g gp gl gw gd ba b1 b2 N : Nat} {p : Pt}
end
end Go.Proofs.Ytmnpchncmbnddaa
/- Stores: what Apply and Load do, by the plain store. -/
namespace Go.Proofs.Ytmnpchncmbnddaa
open Go.RowKit

/-- What refuses a version, by the plain store; 0: nothing. -/
def errP (S : PS) (v : Vn) : Int := if v.bad ≠ 0 then v.bad else if 0 < (ofP S v.k).length ∧ v.stamp ≤ lastP (ofP S v.k) then 130 else 0
theorem errOf_view {s : St} {v : Vn} : s.errOf v = errP s.view v := by
  unfold St.errOf errP
  rw [lastL_vs, show v.key.data.toList = v.k from rfl, ofO_vs, ← ofO_vs, List.length_map]
/-- A version applied, where nothing refuses it. -/
def tryP (S : PS) (v : Vn) : PS := if errP S v = 0 then applyP S v else S
theorem okMore {s : St} {N M : Nat} (h : s.ok N) (hM : N ≤ M) : s.ok M := ⟨h.apart, Nat.le_trans h.many hM, fun p hp => by
  obtain ⟨h1, h2, h3, h4⟩ := h.each p hp
  exact ⟨h1, h2, Nat.le_trans h3 hM, h4⟩, h.live⟩
theorem apply_turn {a : Item} {w0 w : World} {L : List Item} {i : Nat} {s : St} {N : Nat} (T : Turn a w0 (Item.all L) w) (hi : L[i]? = some s.item) (hok : s.ok N) (hN : N ≤ 1099511627775) {A : Option Addr} {c : Nat} (v : Vn) (hr : BReads w w.heap.size A v.value) (hks : v.key.size ≤ maxLen) (hvs : v.value.length ≤ 140737488355328) :
    Calls Try.prog 75 #[.pointer (some ⟨s.gs, 0, none⟩), .agg (v.cells A c)] w fun e w' => e = .returned (.int .i64 (errP s.view v)) ∧ ∃ s' : St, s'.gs = s.gs ∧ s'.gm = s.gm ∧ s'.ok (N + 1) ∧ s'.view = tryP s.view v ∧ Turn a w0 (Item.all (L.set i s'.item)) w' := by
  refine (apply_any (T.get hi) hok hN (c := c) v hr hks hvs).mono ?_
  rintro e w' ⟨rfl, h⟩
  rw [errOf_view] at h ⊢
  refine ⟨rfl, ?_⟩
  rcases h with ⟨h, hb⟩ | ⟨h, ch, l, lv, h1, h2, h3, t⟩
  · refine ⟨s, rfl, rfl, okMore hok (by omega), by unfold tryP; rw [if_neg h], ?_⟩
    rw [show L.set i s.item = L from by
      obtain ⟨hl, he⟩ := List.getElem?_eq_some_iff.1 hi
      rw [← he, List.set_getElem_self]]
    exact T.go hb
  · exact ⟨⟨s.gs, s.gm, lv, putA v.key.data.toList ch s.cs⟩, rfl, rfl, h3, by rw [show v.key.data.toList = v.k from rfl, view_put (v := v) h1 h2]; unfold tryP; rw [if_pos h], T.step hi t⟩
/-- Versions applied until one is refused. -/
def loadF : PS → List Vn → PS × Int
  | S, [] => (S, 0)
  | S, v :: r => if errP S v = 0 then loadF (applyP S v) r else (S, errP S v)
theorem loadF_yes {S : PS} {l : List Vn} {K : Nat} {x : Vn} (h : K < l.length) (hx : x = l[K]) (he : errP S x = 0) : loadF S (l.drop K) = loadF (tryP S x) (l.drop (K + 1)) := by
  subst hx
  rw [List.drop_eq_getElem_cons h]
  show (if _ then _ else _) = _
  unfold tryP
  rw [if_pos he, if_pos he]
theorem loadF_no {S : PS} {l : List Vn} {K : Nat} {x : Vn} (h : K < l.length) (hx : x = l[K]) (he : errP S x ≠ 0) : loadF S (l.drop K) = (S, errP S x) := by
  subst hx
  rw [List.drop_eq_getElem_cons h]
  show (if _ then _ else _) = _
  rw [if_neg he]
def LoadPost (l : List Vn) (w : World) (e : Ending) (w' : World) : Prop :=
  (loadF [] l).2 ≠ 0 ∧ e = .returned (.tuple #[.pointer none, .int .i64 (loadF [] l).2]) ∧ Below w.heap.size w w' ∨
  (loadF [] l).2 = 0 ∧ ∃ s : St, e = .returned (.tuple #[.pointer (some ⟨s.gs, 0, none⟩), .int .i64 0]) ∧ s.ok l.length ∧ s.view = (loadF [] l).1 ∧ Turn (Item.all []) w (Item.all [s.item]) w'
set_option maxRecDepth 100000 in
set_option maxHeartbeats 3200000 in
theorem load_any {w : World} {B : Nat} {A : Option Addr} {c : Nat} {l : List Vn} (hS : kVn.Sl w B A l) (hB : B ≤ w.heap.size) (hl : l.length ≤ 16777216) (hks : ∀ v ∈ l, v.key.size ≤ maxLen ∧ v.value.length ≤ 140737488355328) :
    Calls Try.prog 74 #[.slice A l.length c] w (LoadPost l w) := by
  have HS := Lib.hid hS
  have HKS := Lib.hid hks
  obtain ⟨N, hN⟩ : ∃ N, N = l.length := ⟨_, rfl⟩
  have HN := Lib.hid hN
  rw [← hN] at hl ⊢
  clear hS hks hN
  go_enter Try.func74, Try.ntmps74
  go_wp2_with fail
  refine (snew_any (w := w)).mono ?_
  rintro e w1 ⟨gs, gm, rfl, hok, t1⟩
  have T1 := Lib.hid (show ∃ s : St, s.gs = gs ∧ s.ok 0 ∧ loadF [] l = loadF s.view (l.drop 0) ∧ Turn (Item.all []) w (Item.all [s.item]) w1 from ⟨_, rfl, hok, rfl, t1.one⟩)
  clear hok t1
  go_wp2
  go_loopw [11] (fun t wr => ∃ K : Nat, t = .int .i64 K ∧ K ≤ N ∧ Hid (∃ s : St, s.gs = gs ∧ s.ok K ∧ loadF [] l = loadF s.view (l.drop K) ∧ Turn (Item.all []) w (Item.all [s.item]) wr)) (fun t _ => N - (intOf t).toNat)
  case atStart => exact ⟨0, rfl, Nat.zero_le _, T1⟩
  case round =>
    clear T1
    obtain ⟨K, rfl, hK, hH⟩ := hrel
    by_cases hlt : (K : Int) < (N : Int)
    · have hKi : K + 1 ≤ N := by omega
      have hKl : K < l.length := by have := HN.out; omega
      obtain ⟨s, hg, hok, hload, hT⟩ := hH.out
      have hbw := hT.free
      obtain ⟨bb, off, Av, cv, hA, hbb, hints, s0, s1, s2, s3, hval, hvc⟩ := vn_at (HS.out.keep (fun p hp => hbw.cell (Nat.lt_of_lt_of_le hp hB))) hKl
      subst hA
      obtain ⟨x, hx⟩ : ∃ x, x = l[K] := ⟨_, rfl⟩
      have hxm : x ∈ l := by rw [hx]; exact List.getElem_mem _
      have hxb := HKS.out x hxm
      rw [← hx] at s0 s1 s2 s3 hval hvc
      have HY := Lib.hid (loadF_yes (S := s.view) hKl hx)
      have HN0 := Lib.hid (loadF_no (S := s.view) hKl hx)
      have HL := Lib.hid hload
      have HT := Lib.hid hT
      obtain ⟨key, st, v, dd⟩ := x
      simp only at s0 s1 s2 s3 hval hvc hxb
      have hb1 := (Below.refl wr.heap.size wr).alloc (Nat.le_refl _) (.cells #[.string key, .int .i64 st, .slice Av v.length cv, .bool dd] 88)
      have HAP := Lib.hid (apply_turn (i := 0) (HT.out.go hb1) rfl hok (by omega) (A := Av) (c := cv) ⟨key, st, v, dd⟩ (((hval.more (Nat.le_trans hB hbw.size)).below hb1).more hb1.size) hxb.1 hxb.2)
      rw [hg] at HAP
      clear hx hxm hxb hval hvc hints hb1 hT hH hload hok hbw hbb hg hKl
      go_wp2_with fail
      refine HAP.out.mono ?_
      rintro e w2 ⟨rfl, s', hg', _, hok', hv', t⟩
      obtain ⟨R, hR⟩ : ∃ R, R = errP s.view ⟨key, st, v, dd⟩ := ⟨_, rfl⟩
      have HR := Lib.hid hR
      have HH := Lib.hid (And.intro hg' (And.intro hok' hv'))
      have T2 := Lib.hid t
      rw [← hR]
      clear hR hg' hok' hv' t HAP
      by_cases hr0 : R = 0
      · have HE := Lib.hid (HR.out.symm.trans hr0)
        subst hr0
        go_wp2
        exact ⟨⟨K + 1, by go_num, hKi, Lib.hid ⟨s', HH.out.1, HH.out.2.1, by rw [HL.out, HY.out HE.out, HH.out.2.2], T2.out⟩⟩, by simp [intOf]; omega⟩
      · have d0 : decide (R = 0) = false := decide_eq_false hr0
        have HF := Lib.hid (show LoadPost l w (.returned (.tuple #[.pointer none, .int .i64 R])) w2 from by
          have e1 : loadF [] l = (s.view, R) := by rw [HL.out, HN0.out (by rw [← HR.out]; exact hr0), ← HR.out]
          exact .inl ⟨by rw [e1]; exact hr0, by rw [e1], T2.out.free⟩)
        go_wp2
        go_ret2
        exact HF.out
    · obtain rfl : K = N := by omega
      obtain ⟨s, hg, hok, hload, hT⟩ := hH.out
      rw [List.drop_of_length_le (by rw [← HN.out]; omega)] at hload
      have HR := Lib.hid (show LoadPost l w (.returned (.tuple #[.pointer (some ⟨gs, 0, none⟩), .int .i64 0])) wr from .inr ⟨by rw [hload]; rfl, s, by rw [hg], by rw [← HN.out]; exact hok, by rw [hload]; rfl, hT⟩)
      clear hg hok hload hT hH
      go_wp2
      go_ret2
      exact HR.out
end Go.Proofs.Ytmnpchncmbnddaa
