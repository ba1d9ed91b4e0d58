/- Contracts and plain laws that this claim leans on, laid together: Rdp, Read, Pok. -/
import Derived.Test.YtmnpchncmbnddaaGreatG17
import Derived.Test.YtmnpchncmbnddaaGreatG19
import Derived.Test.YtmnpchncmbnddaaGreatG15
set_option linter.all false
set_option linter.unusedVariables false
set_option linter.unusedSimpArgs false
set_option linter.unnecessarySimpa false
/- Rebuild: entries read, the plain law: whole groups one behind the other. -/
namespace Go.Proofs.YtmnpchncmbnddaaGreat
open Go.RowKit

/-- One group at the head of a list: the store behind it, its stamp, how many entries it has; none: no group stands there. -/
noncomputable def grpF (S : PS) (now count : Int) : List En → Option (PS × Int × Nat)
  | [] => none
  | o :: r => if o.kind = 4 then ckF now count (o :: r) else match comG (IntKind.i64.wrap (now + 1)) [] (o :: r) with
    | none => none
    | some p => some (tryL S (p.map (wOf (IntKind.i64.wrap (now + 1)))), IntKind.i64.wrap (now + 1), p.length + 1)
theorem grpF_cons {S : PS} {now k : Int} {o : En} {r : List En} : grpF S now k (o :: r) = (if o.kind = 4 then ckF now k (o :: r) else match comG (IntKind.i64.wrap (now + 1)) [] (o :: r) with
    | none => none
    | some p => some (tryL S (p.map (wOf (IntKind.i64.wrap (now + 1)))), IntKind.i64.wrap (now + 1), p.length + 1)) := rfl
theorem ckF_cons {now count : Int} {o : En} {r : List En} : ckF now count (o :: r) = (if o.chk ≠ 0 ∨ (r.length : Int) - 1 < o.count then none else if o.stamp ≠ now ∧ (0 < count ∨ o.stamp < now) then none else
    match ckV o.stamp [] (r.take o.count.toNat) with
    | none => none
    | some vs => match r[o.count.toNat]? with
      | none => none
      | some e => if e.kind = 6 ∧ e.stamp = o.stamp ∧ e.count = o.count ∧ e.chk = 0 then (if (loadF [] vs).2 = 0 then some ((loadF [] vs).1, o.stamp, o.count.toNat + 2) else none) else none) := rfl
/-- Read so far. -/
inductive Grp (l : List En) (start : Int) : PS → Int → Nat → Prop
  | zero : Grp l start [] start 0
  | step {S S' : PS} {now now' : Int} {k n : Nat} (r : Grp l start S now k) (h : grpF S now k (l.drop k) = some (S', now', n)) : Grp l start S' now' (k + n)
/-- Read to the end. -/
def GrpEnd (l : List En) (start : Int) (S : PS) (now : Int) (k : Nat) : Prop := Grp l start S now k ∧ grpF S now k (l.drop k) = none
/-- What is read from a place on. -/
inductive GrpFin (l : List En) (b : PS × Int × Nat) : PS → Int → Nat → Prop
  | stop {S : PS} {now : Int} {k : Nat} (h : grpF S now k (l.drop k) = none) (e : b = (S, now, k)) : GrpFin l b S now k
  | step {S S' : PS} {now now' : Int} {k n : Nat} (h : grpF S now k (l.drop k) = some (S', now', n)) (r : GrpFin l b S' now' (k + n)) : GrpFin l b S now k
section
variable {l r : List En} {start now now' : Int} {S S' : PS} {k n : Nat} {b : PS × Int × Nat}
theorem fin_of (h : Grp l start S now k) (f : GrpFin l b S now k) : GrpFin l b [] start 0 := by
  induction h with
  | zero => exact f
  | step r h ih => exact ih (.step h f)
theorem fin_one {b' : PS × Int × Nat} (f : GrpFin l b S now k) : GrpFin l b' S now k → b = b' := by
  induction f with
  | stop h e =>
    intro g
    cases g with
    | stop _ e' => rw [e, e']
    | step h' _ => rw [h] at h'; cases h'
  | step h r ih =>
    intro g
    cases g with
    | stop h' _ => rw [h] at h'; cases h'
    | step h' r' =>
      rw [h] at h'
      injection h' with h'
      injection h' with h1 h'
      injection h' with h2 h3
      subst h1; subst h2; subst h3
      exact ih r'
theorem GrpEnd.fin (h : GrpEnd l start S now k) : GrpFin l (S, now, k) [] start 0 := fin_of h.1 (.stop h.2 rfl)
theorem GrpEnd.one (h : GrpEnd l start S now k) (g : GrpEnd l start S' now' n) : S = S' ∧ now = now' ∧ k = n := by
  have := fin_one h.fin g.fin
  injection this with h1 h2
  injection h2 with h2 h3
  exact ⟨h1, h2, h3⟩
theorem comG_app {m : Int} {p : List En} : ∀ {l : List En} {prev : List En}, comG m prev l = some p → ∀ r, comG m prev (l ++ r) = some p
  | [], _, h, _ => by cases h
  | e :: l, prev, h, r => by
    rw [List.cons_append]
    unfold comG at h ⊢
    split at h
    · cases h
    · rename_i h0
      rw [if_neg h0]
      split at h
      · rename_i h1
        rw [if_pos h1]
        split at h
        · cases h
        · rename_i h2
          rw [if_neg h2]
          exact comG_app h r
      · rename_i h1
        rw [if_neg h1]
        exact h
theorem comG_loc {m : Int} {p : List En} : ∀ {l : List En} {prev : List En}, comG m prev l = some p → prev.length ≤ p.length ∧ p.length + 1 ≤ prev.length + l.length ∧ comG m prev (l.take (p.length + 1 - prev.length)) = some p
  | [], _, h => by cases h
  | e :: l, prev, h => by
    have h' := h
    unfold comG at h
    split at h
    · cases h
    · rename_i h0
      split at h
      · rename_i h1
        split at h
        · cases h
        · rename_i h2
          obtain ⟨a1, a2, a3⟩ := comG_loc h
          rw [List.length_append, List.length_singleton] at a1 a2 a3
          refine ⟨by omega, by rw [List.length_cons]; omega, ?_⟩
          rw [show p.length + 1 - prev.length = (p.length + 1 - (prev.length + 1)) + 1 from by omega, List.take_succ_cons]
          unfold comG
          rw [if_neg h0, if_pos h1, if_neg h2]
          exact a3
      · rename_i h1
        split at h
        · rename_i h3
          split at h
          · cases h
          · rename_i h4
            injection h with h
            subst h
            refine ⟨Nat.le_refl _, by rw [List.length_cons]; omega, ?_⟩
            rw [show prev.length + 1 - prev.length = 0 + 1 from by omega, List.take_succ_cons]
            unfold comG
            rw [if_neg h0, if_neg h1, if_pos h3, if_neg h4]
        · cases h
theorem grpF_len (h : grpF S now k l = some (S', now', n)) : 0 < n ∧ n ≤ l.length := by
  cases l with
  | nil => cases h
  | cons o r =>
    rw [grpF_cons] at h
    split at h
    · rw [ckF_cons] at h
      split at h
      · cases h
      · rename_i h0
        split at h
        · cases h
        · split at h
          · cases h
          · split at h
            · cases h
            · rename_i e he
              split at h
              · split at h
                · rename_i hm _
                  injection h with h
                  injection h with _ h
                  injection h with _ h
                  have h1 : o.chk = 0 := Decidable.not_not.1 (fun hh => h0 (.inl hh))
                  have h2 : ¬ ((r.length : Int) - 1 < o.count) := fun hh => h0 (.inr hh)
                  have := (List.getElem?_eq_some_iff.1 he).1
                  subst h
                  rw [List.length_cons]
                  omega
                · cases h
              · cases h
    · split at h
      · cases h
      · rename_i p hp
        injection h with h
        injection h with _ h
        injection h with _ h
        obtain ⟨_, h2, _⟩ := comG_loc hp
        subst h
        rw [List.length_nil] at h2
        omega
theorem ckF_app {c : Int} (h : ckF now c l = some (S', now', n)) (r : List En) : ckF now c (l ++ r) = some (S', now', n) := by
  cases l with
  | nil => cases h
  | cons o q =>
    rw [List.cons_append]
    rw [ckF_cons] at h ⊢
    split at h
    · cases h
    · rename_i h0
      have h1 : ¬ ((q.length : Int) - 1 < o.count) := fun hh => h0 (.inr hh)
      rw [if_neg (by rintro (hh | hh)
                     · exact h0 (.inl hh)
                     · rw [List.length_append] at hh; omega)]
      split at h
      · cases h
      · rename_i h2
        rw [if_neg h2]
        rw [List.take_append_of_le_length (by omega)]
        split at h
        · cases h
        · rename_i vs hvs
          try rw [hvs]
          split at h
          · cases h
          · rename_i e he
            rw [List.getElem?_append_left (List.getElem?_eq_some_iff.1 he).1, he]
            exact h
theorem ckF_loc {c : Int} (h : ckF now c l = some (S', now', n)) : ckF now c (l.take n) = some (S', now', n) := by
  cases l with
  | nil => cases h
  | cons o q =>
    have h' := h
    rw [ckF_cons] at h
    split at h
    · cases h
    · rename_i h0
      split at h
      · cases h
      · rename_i h2
        split at h
        · cases h
        · rename_i vs hvs
          split at h
          · cases h
          · rename_i e he
            split at h
            · rename_i h3
              split at h
              · rename_i h4
                injection h with h
                injection h with e1 h
                injection h with e2 h
                subst h; subst e1; subst e2
                have hlt := (List.getElem?_eq_some_iff.1 he).1
                have hc0 : 0 ≤ o.count := by
                  by_cases hh : 0 ≤ o.count
                  · exact hh
                  · exfalso
                    have h1 : o.chk = 0 := Decidable.not_not.1 (fun hh => h0 (.inl hh))
                    unfold En.chk at h1
                    by_cases hm : o.may
                    · rw [h3.2.2.1.symm] at hh
                      have h6 := h3.2.2.2
                      unfold En.chk at h6
                      by_cases hm2 : e.may
                      · unfold En.may at hm2
                        rw [h3.1] at hm2
                        simp at hm2
                        exact hh (by omega)
                      · rw [if_neg hm2] at h6; cases h6
                    · rw [if_neg hm] at h1; cases h1
                rw [List.take_succ_cons]
                rw [ckF_cons]
                rw [if_neg (by rintro (hh | hh)
                               · exact h0 (.inl hh)
                               · rw [List.length_take, Nat.min_eq_left (by omega)] at hh; omega), if_neg h2, List.take_take, Nat.min_eq_left (by omega), hvs, List.getElem?_take_of_lt (by omega), he]
                simp only
                rw [if_pos h3, if_pos h4]
              · cases h
            · cases h
theorem grpF_app (h : grpF S now k l = some (S', now', n)) (r : List En) : grpF S now k (l ++ r) = some (S', now', n) := by
  cases l with
  | nil => cases h
  | cons o q =>
    rw [grpF_cons] at h
    rw [List.cons_append]
    rw [grpF_cons]
    split at h
    · rename_i h4
      rw [if_pos h4]
      exact ckF_app h r
    · rename_i h4
      rw [if_neg h4]
      split at h
      · cases h
      · rename_i p hp
        have := comG_app hp r
        rw [List.cons_append] at this
        rw [this]
        exact h
theorem grpF_loc (h : grpF S now k l = some (S', now', n)) : grpF S now k (l.take n) = some (S', now', n) := by
  have hn := grpF_len h
  cases l with
  | nil => cases h
  | cons o q =>
    have h' := h
    rw [grpF_cons] at h
    split at h
    · rename_i h4
      have := ckF_loc h
      obtain ⟨m, rfl⟩ : ∃ m, n = m + 1 := ⟨n - 1, by omega⟩
      rw [List.take_succ_cons] at this ⊢
      rw [grpF_cons]
      rw [if_pos h4]
      exact this
    · rename_i h4
      split at h
      · cases h
      · rename_i p hp
        injection h with h
        injection h with e1 h
        injection h with e2 h
        subst h
        obtain ⟨_, _, h3⟩ := comG_loc hp
        rw [List.length_nil, Nat.sub_zero, List.take_succ_cons] at h3
        rw [List.take_succ_cons]
        rw [grpF_cons]
        rw [if_neg h4, h3, ← e1, ← e2]
theorem Grp.le (h : Grp l start S now k) : k ≤ l.length := by
  induction h with
  | zero => exact Nat.zero_le _
  | step r h ih =>
    have := (grpF_len h).2
    rw [List.length_drop] at this
    omega
theorem Grp.app (h : Grp l start S now k) (r : List En) : Grp (l ++ r) start S now k := by
  induction h with
  | zero => exact .zero
  | step q h ih =>
    refine .step ih ?_
    rw [List.drop_append_of_le_length q.le]
    exact grpF_app h r
theorem Grp.loc (h : Grp l start S now k) {j : Nat} (hj : k ≤ j) : Grp (l.take j) start S now k := by
  induction h with
  | zero => exact .zero
  | @step S S' now now' k n q h ih =>
    refine .step (ih (by omega)) ?_
    have h1 := grpF_loc h
    rw [List.drop_take]
    have h2 := grpF_app h1 (((l.drop k).take (j - k)).drop n)
    rwa [show (l.drop k).take n = ((l.drop k).take (j - k)).take n from by rw [List.take_take, Nat.min_eq_left (by omega)], List.take_append_drop] at h2
/-- The first entries of a row: one entry more brings nothing, or a whole group that ends there. -/
theorem GrpEnd.next {j : Nat} (hj : j < l.length) (h : GrpEnd (l.take j) start S now k) (g : GrpEnd (l.take (j + 1)) start S' now' n) : S' = S ∧ now' = now ∧ n = k ∨ n = j + 1 := by
  have h1 : Grp (l.take (j + 1)) start S now k := by
    have := h.1.app (l.drop j |>.take 1)
    rwa [show l.take j ++ (l.drop j).take 1 = l.take (j + 1) from by
      rw [List.take_succ_eq_append_getElem hj, List.drop_eq_getElem_cons hj]; rfl] at this
  have hk : k ≤ j := by have := h.1.le; rw [List.length_take] at this; omega
  cases hs : grpF S now k ((l.take (j + 1)).drop k) with
  | none =>
    obtain ⟨a, b, c⟩ := GrpEnd.one g ⟨h1, hs⟩
    exact .inl ⟨a, b, c⟩
  | some x =>
    obtain ⟨S2, n2, m⟩ := x
    have hl := grpF_len hs
    rw [List.length_drop, List.length_take] at hl
    have h2 := Grp.step h1 hs
    by_cases hm : k + m ≤ j
    · exfalso
      have h3 := grpF_loc hs
      have h4 := grpF_app h3 (((l.take j).drop k).drop m)
      rw [show ((l.take (j + 1)).drop k).take m = ((l.take j).drop k).take m from by
        rw [List.drop_take, List.drop_take, List.take_take, List.take_take, Nat.min_eq_left (by omega), Nat.min_eq_left (by omega)], List.take_append_drop] at h4
      rw [h.2] at h4
      cases h4
    · have e : k + m = j + 1 := by omega
      have h5 : GrpEnd (l.take (j + 1)) start S2 n2 (k + m) := ⟨h2, by rw [e, List.drop_of_length_le (by rw [List.length_take]; omega)]; rfl⟩
      obtain ⟨_, _, c⟩ := GrpEnd.one g h5
      exact .inr (by omega)
/-- The whole groups alone are read alike. -/
theorem GrpEnd.whole (h : GrpEnd l start S now k) : GrpEnd (l.take k) start S now k :=
  ⟨h.1.loc (Nat.le_refl _), by rw [List.drop_of_length_le (by rw [List.length_take]; omega)]; rfl⟩
theorem GrpEnd.nil : GrpEnd [] start [] start 0 := ⟨.zero, rfl⟩
end
end Go.Proofs.YtmnpchncmbnddaaGreat
/- Rebuild: Read, by contract. -/
namespace Go.Proofs.YtmnpchncmbnddaaGreat
open Go.RowKit

theorem addr_add {b o n : Nat} : (⟨b, o, none⟩ : Addr).add n = ⟨b, o + n, none⟩ := by
  unfold Addr.add
  split
  · rename_i h; rw [h]; rfl
  · rfl
def RbReadPost (l : List En) (start : Int) (w : World) (e : Ending) (w' : World) : Prop :=
  ∃ S now n, GrpEnd l start S now n ∧ ∃ s : St, e = .returned (.tuple #[.pointer (some ⟨s.gs, 0, none⟩), .int .i64 now, .int .i64 (n : Nat)]) ∧ s.ok n ∧ s.view = S ∧ Turn (Item.all []) w (Item.all [s.item]) w'
def GrpIn (l : List En) (start : Int) (w : World) (gb K : Nat) (wr : World) : Prop :=
  ∃ S now, ∃ s : St, Grp l start S now K ∧ s.ok K ∧ s.view = S ∧ Turn (Item.all []) w (Item.all [s.item, Item.bld gb s.gs now K]) wr
set_option maxRecDepth 100000 in
set_option maxHeartbeats 6400000 in
theorem rbRead_any {w : World} {B : Nat} {A : Option Addr} {c : Nat} {l : List En} {start : Int} (hS : kEn.Sl w B A l) (hB : B ≤ w.heap.size) (hl : l.length ≤ 16777216) (hc : l.length ≤ c) (hks : ∀ e ∈ l, e.key.size ≤ 1099511627776 ∧ e.value.length ≤ 1099511627776) :
    Calls Tryz.prog 45 #[.slice A l.length c, .int .i64 start] w (RbReadPost l start w) := by
  have HS := Lib.hid (hS.more hB)
  have HKS := Lib.hid hks
  obtain ⟨N, hN⟩ : ∃ N, N = l.length := ⟨_, rfl⟩
  have HN := Lib.hid hN
  rw [← hN] at hl hc ⊢
  clear hS hks hN hB
  go_enter Tryz.func45, Tryz.ntmps45
  go_wp2_with fail
  refine snew_any.mono ?_
  rintro e w1 ⟨gs, gm, rfl, hok, t1⟩
  obtain ⟨gb, hgb⟩ : ∃ g, g = w1.heap.size := ⟨_, rfl⟩
  have T1 := Lib.hid (show GrpIn l start w gb 0 (w1.alloc (.cells #[.pointer (some ⟨gs, 0, none⟩), .int .i64 start, .int .i64 0] 194)) from ⟨[], start, ⟨gs, gm, 0, []⟩, .zero, hok, rfl, by
    rw [hgb]
    exact (t1.one.more (y := Item.bld w1.heap.size gs start ((0 : Nat) : Int)) ((Below.refl _ _).alloc (Nat.le_refl _) _) (Blk.new _ _ _) (fun k hk => Nat.le_of_eq hk.symm)).by_ 2 rfl [1, 0] (by decide)⟩)
  clear hok t1
  go_upto_region 2 with fail
  rw [← hgb]
  obtain ⟨w2, hw2⟩ : ∃ x, x = w1.alloc (.cells #[.pointer (some ⟨gs, 0, none⟩), .int .i64 start, .int .i64 0] 194) := ⟨_, rfl⟩
  rw [← hw2] at T1 ⊢
  clear hw2 hgb
  go_loopw [] (fun wr => ∃ K : Nat, K ≤ N ∧ wr.cell? ⟨gb, 2, none⟩ = some (.int .i64 K) ∧ Hid (GrpIn l start w gb K wr)) (fun wr => N - (intOf ((wr.cell? ⟨gb, 2, none⟩).getD (.int .i64 0))).toNat)
  case atStart =>
    refine ⟨0, Nat.zero_le _, ?_, T1⟩
    obtain ⟨_, now, s, _, _, _, hT⟩ := T1.out
    have := Blk.cell (show Blk w2 gb _ (bldCells s.gs now ((0 : Nat) : Int)) from hT.get (i := 1) rfl) 2
    simpa [bldCells] using this
  case round =>
    clear T1
    obtain ⟨K, hK, y2, hH⟩ := hrel
    obtain ⟨S, now, s, hrd, hok, hv, hT⟩ := hH.out
    have HRD := Lib.hid hrd
    have HOK := Lib.hid (And.intro hok hv)
    have HT := Lib.hid hT
    have y0 := Blk.cell (show Blk wr gb _ (bldCells s.gs now K) from hT.get (i := 1) rfl) 0
    have y1 := Blk.cell (show Blk wr gb _ (bldCells s.gs now K) from hT.get (i := 1) rfl) 1
    simp only [List.getElem?_toArray, List.getElem?_cons_zero, List.getElem?_cons_succ, bldCells] at y0 y1
    have hmu : (intOf ((wr.cell? ⟨gb, 2, none⟩).getD (.int .i64 0))).toNat = K := by rw [y2]; simp [intOf]
    have HMU := Lib.hid hmu
    clear hmu
    by_cases hlt : (K : Int) < (N : Int)
    · have hKl : K < l.length := by have := HN.out; omega
      obtain ⟨bb, off, Av, cv, hA, hbb, hints, s0, s1, s2, s3, s4, s5, hval⟩ := en_at (HS.out.below hT.free) hKl
      subst hA
      obtain ⟨x, hx⟩ : ∃ x, x = l[K] := ⟨_, rfl⟩
      rw [← hx] at s0
      obtain ⟨kd, hkd⟩ : ∃ k, k = x.kind := ⟨_, rfl⟩
      rw [← hkd] at s0
      have HKD := Lib.hid hkd
      have HX := Lib.hid hx
      obtain ⟨M, hM⟩ : ∃ M, M = N - K := ⟨_, rfl⟩
      have HM := Lib.hid hM
      have HDL := Lib.hid (show (l.drop K).length = M from by rw [List.length_drop, ← HN.out, hM])
      have hM1 : 0 < M := by omega
      have hMN : K + M ≤ N := by omega
      have HSD := Lib.hid (show kEn.Sl w w.heap.size (some ⟨bb, off + K * 6, none⟩) (l.drop K) from by
        have h := sl_drop (k := K) HS.out
        rw [show kEn.size = 6 from rfl, Option.map_some, addr_add] at h
        exact h)
      have HKD2 := Lib.hid (show ∀ e ∈ l.drop K, e.key.size ≤ 1099511627776 ∧ e.value.length ≤ 1099511627776 from fun e he => HKS.out e (List.mem_of_mem_drop he))
      have HD0 := Lib.hid (show (l.drop K)[0]? = some x from by rw [List.getElem?_drop, Nat.add_zero, HX.out]; exact List.getElem?_eq_getElem hKl)
      have hKc : K ≤ c := by omega
      have HOC := Lib.hid (show M ≤ c - K from by omega)
      obtain ⟨o6, ho6⟩ : ∃ o, o = off + K * 6 := ⟨_, rfl⟩
      have s0' := s0
      rw [← ho6] at s0' HSD
      have HSTK := Lib.hid (fun h4 : kd = 4 => show grpF S now K (l.drop K) = ckF now K (l.drop K) from by
        have h0 := HD0.out
        cases hd : l.drop K with
        | nil => rw [hd] at h0; cases h0
        | cons o r =>
          rw [hd] at h0
          injection h0 with h0
          rw [grpF_cons]
          rw [if_pos (by rw [h0, ← HKD.out]; exact h4)])
      have HSTC := Lib.hid (fun h4 : kd ≠ 4 => show grpF S now K (l.drop K) = (match comG (IntKind.i64.wrap (now + 1)) [] (l.drop K) with | none => none | some p => some (tryL S (p.map (wOf (IntKind.i64.wrap (now + 1)))), IntKind.i64.wrap (now + 1), p.length + 1)) from by
        have h0 := HD0.out
        cases hd : l.drop K with
        | nil => rw [hd] at h0; cases h0
        | cons o r =>
          rw [hd] at h0
          injection h0 with h0
          rw [grpF_cons]
          rw [if_neg (by rw [h0, ← HKD.out]; exact h4)]
          all_goals rfl)
      clear hrd hok hv hT hH hbb hints s1 s2 s3 s4 s5 hval hx hkd
      go_upto_region 4 with fail
      try rw [← HM.out]
      try rw [← ho6]
      clear hM
      by_cases h4 : kd = 4
      · have b4 : (kd == 4) = true := beq_iff_eq.2 h4
        have d4 : decide (kd = 4) = true := decide_eq_true h4
        have HP := Lib.hid (ckpt_any (w0 := w) (c := c - K) HT.out HSD.out (by rw [HDL.out]; exact hM1) (by
          have h0 := HD0.out
          rw [List.getElem?_eq_getElem (by rw [HDL.out]; exact hM1)] at h0
          injection h0 with h0
          rw [h0, ← HKD.out]; exact h4) (by rw [HDL.out]; omega) (by rw [HDL.out]; exact HOC.out) HKD2.out)
        rw [HDL.out] at HP
        have HST := Lib.hid (HSTK.out h4)
        clear h4 s0 ho6
        go_wp2_with fail
        refine HP.out.mono ?_
        rintro e w3 (⟨h1, rfl, t⟩ | ⟨S2, st2, n, h1, rfl, s', hok', hv', t⟩)
        · have HE := Lib.hid (show GrpEnd l start S now K from ⟨HRD.out, HST.out.trans h1⟩)
          have HR := Lib.hid (show ∀ W, Below w3.heap.size w3 W → RbReadPost l start w (.returned (.tuple #[.pointer (some ⟨s.gs, 0, none⟩), .int .i64 now, .int .i64 K])) W from fun W hb => ⟨S, now, K, HE.out, s, rfl, HOK.out.1, HOK.out.2, (t.sub (List.Sublist.cons_cons _ (List.nil_sublist _))).go hb⟩)
          clear h1 y0 y1 y2
          have y0 := Blk.cell (show Blk w3 gb _ (bldCells s.gs now K) from t.get (i := 1) rfl) 0
          have y1 := Blk.cell (show Blk w3 gb _ (bldCells s.gs now K) from t.get (i := 1) rfl) 1
          have y2 := Blk.cell (show Blk w3 gb _ (bldCells s.gs now K) from t.get (i := 1) rfl) 2
          simp only [List.getElem?_toArray, List.getElem?_cons_zero, List.getElem?_cons_succ, bldCells] at y0 y1 y2
          obtain ⟨gs', hgs'⟩ : ∃ g, g = s.gs := ⟨_, rfl⟩
          rw [← hgs'] at y0 HR
          clear t hgs'
          go_upto_region 9 with fail
          go_quiet (fail)
          go_wp2
          go_ret3
          exact HR.out _ (below_drewN (Below.refl _ _) nq)
        · have HE := Lib.hid (show grpF S now K (l.drop K) = some (S2, st2, n) from HST.out.trans h1)
          have HOK2 := Lib.hid (show s'.ok (K + n) ∧ s'.view = S2 from ⟨okMore hok' (by omega), hv'⟩)
          have T3 := Lib.hid (show Turn (Item.all []) w (Item.all [s'.item, Item.bld gb s'.gs st2 K]) w3 from t)
          clear hok' hv'
          have HLE := grpF_len HE.out
          rw [HDL.out] at HLE
          obtain ⟨hn0, hnM⟩ := HLE
          have HRD2 := Lib.hid (Grp.step HRD.out HE.out)
          clear h1 y0 y1 y2 HE t
          have y2 := Blk.cell (show Blk w3 gb _ (bldCells s'.gs st2 K) from T3.out.get (i := 1) rfl) 2
          have f2 := Blk.frozen (show Blk w3 gb _ (bldCells s'.gs st2 K) from T3.out.get (i := 1) rfl) 2
          simp only [List.getElem?_toArray, List.getElem?_cons_zero, List.getElem?_cons_succ, bldCells] at y2
          have hKn : K + n ≤ N := by omega
          have dn : decide ((n : Int) = 0) = false := decide_eq_false (by omega)
          have HRE := Lib.hid (show GrpIn l start w gb (K + n) (w3.setCell ⟨gb, 2, none⟩ (.int .i64 ((K : Int) + (n : Int)))) from ⟨S2, st2, s', HRD2.out, HOK2.out.1, HOK2.out.2, by
            have t := T3.out.step (i := 1) rfl (Turn.cell (show Blk w3 gb _ (bldCells s'.gs st2 K) from T3.out.get (i := 1) rfl) 2 (.int .i64 ((K : Int) + (n : Int))))
            rw [← Int.natCast_add] at t ⊢
            exact t⟩)
          clear T3
          go_wp2
          have hcell : (w3.setCell ⟨gb, 2, none⟩ (.int .i64 ((K : Int) + (n : Int)))).cell? ⟨gb, 2, none⟩ = some (.int .i64 ((K : Int) + (n : Int))) := by
            obtain ⟨_, now5, s5, _, _, _, t5⟩ := HRE.out
            have h5 := Blk.cell (show Blk _ gb _ (bldCells s5.gs now5 ((K + n : Nat) : Int)) from t5.get (i := 1) rfl) 2
            simp only [List.getElem?_toArray, List.getElem?_cons_zero, List.getElem?_cons_succ, bldCells, Int.natCast_add] at h5
            exact h5
          refine ⟨⟨K + n, hKn, by rw [hcell]; go_num, HRE⟩, ?_⟩
          rw [hcell, HMU.out]
          simp [intOf]
          omega
      · have b4 : (kd == 4) = false := beq_false_of_ne h4
        have d4 : decide (kd = 4) = false := decide_eq_false h4
        have HP := Lib.hid (bcommit_any (w0 := w) (c := c - K) (N := K) HT.out HOK.out.1 HSD.out (by rw [HDL.out]; omega) (by rw [HDL.out]; omega) HKD2.out)
        rw [HDL.out] at HP
        have HST := Lib.hid (HSTC.out h4)
        clear h4 s0 ho6
        go_wp2_with fail
        refine HP.out.mono ?_
        rintro e w3 (⟨h1, rfl, t⟩ | ⟨p, h1, rfl, s', hg', hok', hv', t⟩)
        · have HE := Lib.hid (show GrpEnd l start S now K from ⟨HRD.out, by rw [HST.out, h1]⟩)
          have HR := Lib.hid (show ∀ W, Below w3.heap.size w3 W → RbReadPost l start w (.returned (.tuple #[.pointer (some ⟨s.gs, 0, none⟩), .int .i64 now, .int .i64 K])) W from fun W hb => ⟨S, now, K, HE.out, s, rfl, HOK.out.1, HOK.out.2, (t.sub (List.Sublist.cons_cons _ (List.nil_sublist _))).go hb⟩)
          clear h1 y0 y1 y2
          have y0 := Blk.cell (show Blk w3 gb _ (bldCells s.gs now K) from t.get (i := 1) rfl) 0
          have y1 := Blk.cell (show Blk w3 gb _ (bldCells s.gs now K) from t.get (i := 1) rfl) 1
          have y2 := Blk.cell (show Blk w3 gb _ (bldCells s.gs now K) from t.get (i := 1) rfl) 2
          simp only [List.getElem?_toArray, List.getElem?_cons_zero, List.getElem?_cons_succ, bldCells] at y0 y1 y2
          obtain ⟨gs', hgs'⟩ : ∃ g, g = s.gs := ⟨_, rfl⟩
          rw [← hgs'] at y0 HR
          clear t hgs'
          go_upto_region 9 with fail
          go_quiet (fail)
          go_wp2
          go_ret3
          exact HR.out _ (below_drewN (Below.refl _ _) nq)
        · obtain ⟨n, hn⟩ : ∃ n, n = p.length + 1 := ⟨_, rfl⟩
          obtain ⟨S2, hS2⟩ : ∃ S2, S2 = tryL S (p.map (wOf (IntKind.i64.wrap (now + 1)))) := ⟨_, rfl⟩
          obtain ⟨st2, hst2⟩ : ∃ s2, s2 = IntKind.i64.wrap (now + 1) := ⟨_, rfl⟩
          have HE := Lib.hid (show grpF S now K (l.drop K) = some (S2, st2, n) from by rw [HST.out, h1, hS2, hst2, hn])
          have HOK2 := Lib.hid (show s'.ok (K + n) ∧ s'.view = S2 from ⟨okMore hok' (by omega), by rw [hv', HOK.out.2, hS2]⟩)
          have T3 := Lib.hid (show Turn (Item.all []) w (Item.all [s'.item, Item.bld gb s'.gs st2 K]) w3 from by rw [hst2, hg']; exact t)
          rw [← hn]
          clear hok' hv' hS2 hst2 hn hg'
          have HLE := grpF_len HE.out
          rw [HDL.out] at HLE
          obtain ⟨hn0, hnM⟩ := HLE
          have HRD2 := Lib.hid (Grp.step HRD.out HE.out)
          clear h1 y0 y1 y2 HE t
          have y2 := Blk.cell (show Blk w3 gb _ (bldCells s'.gs st2 K) from T3.out.get (i := 1) rfl) 2
          have f2 := Blk.frozen (show Blk w3 gb _ (bldCells s'.gs st2 K) from T3.out.get (i := 1) rfl) 2
          simp only [List.getElem?_toArray, List.getElem?_cons_zero, List.getElem?_cons_succ, bldCells] at y2
          have hKn : K + n ≤ N := by omega
          have dn : decide ((n : Int) = 0) = false := decide_eq_false (by omega)
          have HRE := Lib.hid (show GrpIn l start w gb (K + n) (w3.setCell ⟨gb, 2, none⟩ (.int .i64 ((K : Int) + (n : Int)))) from ⟨S2, st2, s', HRD2.out, HOK2.out.1, HOK2.out.2, by
            have t := T3.out.step (i := 1) rfl (Turn.cell (show Blk w3 gb _ (bldCells s'.gs st2 K) from T3.out.get (i := 1) rfl) 2 (.int .i64 ((K : Int) + (n : Int))))
            rw [← Int.natCast_add] at t ⊢
            exact t⟩)
          clear T3
          go_wp2
          have hcell : (w3.setCell ⟨gb, 2, none⟩ (.int .i64 ((K : Int) + (n : Int)))).cell? ⟨gb, 2, none⟩ = some (.int .i64 ((K : Int) + (n : Int))) := by
            obtain ⟨_, now5, s5, _, _, _, t5⟩ := HRE.out
            have h5 := Blk.cell (show Blk _ gb _ (bldCells s5.gs now5 ((K + n : Nat) : Int)) from t5.get (i := 1) rfl) 2
            simp only [List.getElem?_toArray, List.getElem?_cons_zero, List.getElem?_cons_succ, bldCells, Int.natCast_add] at h5
            exact h5
          refine ⟨⟨K + n, hKn, by rw [hcell]; go_num, HRE⟩, ?_⟩
          rw [hcell, HMU.out]
          simp [intOf]
          omega
    · obtain rfl : K = N := by omega
      have HE := Lib.hid (show GrpEnd l start S now K from ⟨HRD.out, by rw [List.drop_of_length_le (by rw [← HN.out]; exact Nat.le_refl _)]; rfl⟩)
      have t := HT.out
      obtain ⟨w3, hw3⟩ : ∃ x, x = wr := ⟨_, rfl⟩
      clear HT hrd hok hv hT hH
      subst hw3
      have HR := Lib.hid (show ∀ W, Below w3.heap.size w3 W → RbReadPost l start w (.returned (.tuple #[.pointer (some ⟨s.gs, 0, none⟩), .int .i64 now, .int .i64 K])) W from fun W hb => ⟨S, now, K, HE.out, s, rfl, HOK.out.1, HOK.out.2, (t.sub (List.Sublist.cons_cons _ (List.nil_sublist _))).go hb⟩)
      clear y0 y1 y2
      have y0 := Blk.cell (show Blk w3 gb _ (bldCells s.gs now K) from t.get (i := 1) rfl) 0
      have y1 := Blk.cell (show Blk w3 gb _ (bldCells s.gs now K) from t.get (i := 1) rfl) 1
      have y2 := Blk.cell (show Blk w3 gb _ (bldCells s.gs now K) from t.get (i := 1) rfl) 2
      simp only [List.getElem?_toArray, List.getElem?_cons_zero, List.getElem?_cons_succ, bldCells] at y0 y1 y2
      obtain ⟨gs', hgs'⟩ : ∃ g, g = s.gs := ⟨_, rfl⟩
      rw [← hgs'] at y0 HR
      clear t hgs'
      go_upto_region 9 with fail
      go_quiet (fail)
      go_wp2
      go_ret3
      exact HR.out _ (below_drewN (Below.refl _ _) nq)
end Go.Proofs.YtmnpchncmbnddaaGreat
/- Stores by the plain law: what holds of each store that versions were applied to; a store loaded from its own versions; checkpoints. -/
namespace Go.Proofs.YtmnpchncmbnddaaGreat
open Go.RowKit

structure LvOk (k : Key) (top : Int) (x : Lv) : Prop where
  low : 0 ≤ x.st
  high : x.st ≤ 4611686018427387904
  top : x.st ≤ top
  len : x.v.length ≤ 4096
  dead : x.dead = true → x.v.length = 0
/-- What holds of each store that versions were applied to, up to a stamp. -/
structure PsOk (S : PS) (top : Int) : Prop where
  rising : Rising S
  each : ∀ p ∈ S, p.2 ≠ [] ∧ Ups p.2 ∧ 1 ≤ p.1.length ∧ p.1.length ≤ 255 ∧ ∀ x ∈ p.2, LvOk p.1 top x
section
variable {S : PS} {top : Int} {v : Vn}
theorem PsOk.nil : PsOk [] top := ⟨List.Pairwise.nil, fun _ h => (by cases h)⟩
theorem PsOk.wide {t : Int} (h : PsOk S top) (ht : top ≤ t) : PsOk S t :=
  ⟨h.rising, fun p hp => by
    obtain ⟨a, b, c, d, e⟩ := h.each p hp
    exact ⟨a, b, c, d, fun x hx => ⟨(e x hx).low, (e x hx).high, Int.le_trans (e x hx).top ht, (e x hx).len, (e x hx).dead⟩⟩⟩
theorem lastP_snoc (L : List Lv) (x : Lv) : lastP (L ++ [x]) = x.st := by unfold lastP; rw [List.getLast?_concat]; rfl
theorem ups_last {L : List Lv} (h : Ups L) {a : Lv} (ha : a ∈ L) : a.st ≤ lastP L := by
  have hn : L ≠ [] := List.ne_nil_of_mem ha
  rw [← List.dropLast_concat_getLast hn] at h ha ⊢
  rw [lastP_snoc]
  rcases List.mem_append.1 ha with h1 | h1
  · exact Int.le_of_lt ((List.pairwise_append.1 h).2.2 a h1 _ (List.mem_singleton_self _))
  · rw [List.mem_singleton.1 h1]; exact Int.le_refl _
theorem vbad_0 (h : v.bad = 0) : 1 ≤ v.k.length ∧ v.k.length ≤ 255 ∧ v.value.length ≤ 4096 ∧ (v.dead = true → v.value.length = 0) ∧ 0 ≤ v.stamp ∧ v.stamp ≤ 4611686018427387904 := by
  unfold Vn.bad at h
  have hk : v.k.length = v.key.size := by unfold Vn.k; rw [Array.length_toList]; rfl
  split at h
  · cases h
  · rename_i h1
    split at h
    · cases h
    · rename_i h2
      split at h
      · cases h
      · rename_i h3
        refine ⟨by omega, by omega, by omega, fun hd => ?_, by omega, by omega⟩
        by_cases h4 : 0 < v.value.length
        · exact absurd (.inr ⟨hd, h4⟩) h2
        · omega
theorem bad_of (h1 : 1 ≤ v.key.size) (h2 : v.key.size ≤ 255) (h3 : v.value.length ≤ 4096) (h4 : v.dead = true → v.value.length = 0) (h5 : 0 ≤ v.stamp) (h6 : v.stamp ≤ 4611686018427387904) : v.bad = 0 := by
  unfold Vn.bad
  rw [if_neg (by omega), if_neg (by rintro (h | ⟨h, h'⟩); omega; have := h4 h; omega), if_neg (by omega)]
theorem errP_0 (h : errP S v = 0) : v.bad = 0 ∧ (0 < (ofP S v.k).length → lastP (ofP S v.k) < v.stamp) := by
  unfold errP at h
  by_cases hb : v.bad = 0
  · refine ⟨hb, fun hl => ?_⟩
    rw [if_neg (by rw [hb]; simp)] at h
    by_cases hs : v.stamp ≤ lastP (ofP S v.k)
    · rw [if_pos ⟨hl, hs⟩] at h; cases h
    · omega
  · rw [if_pos hb] at h; exact absurd h hb
theorem errP_of (hb : v.bad = 0) (hl : 0 < (ofP S v.k).length → lastP (ofP S v.k) < v.stamp) : errP S v = 0 := by
  unfold errP
  rw [if_neg (by rw [hb]; simp), if_neg (fun h => by have := hl h.1; omega)]
theorem PsOk.of (h : PsOk S top) {k : Key} : Ups (ofP S k) ∧ ∀ x ∈ ofP S k, LvOk k top x := by
  unfold ofP
  cases hg : getA k S with
  | none => exact ⟨List.Pairwise.nil, fun _ h => (by cases h)⟩
  | some L =>
    obtain ⟨_, b, _, _, e⟩ := h.each _ (getA_mem hg)
    exact ⟨b, e⟩
theorem PsOk.apply (h : PsOk S top) (he : errP S v = 0) (hv : v.stamp ≤ top) : PsOk (applyP S v) top := by
  obtain ⟨hb, hl⟩ := errP_0 he
  obtain ⟨b1, b2, b3, b4, b5, b6⟩ := vbad_0 hb
  refine ⟨rising_put h.rising, fun p hp => ?_⟩
  rcases List.mem_cons.1 ((putA_perm _ _ _).mem_iff.1 hp) with rfl | hp
  · refine ⟨by simp, ?_, b1, b2, fun x hx => ?_⟩
    · refine List.pairwise_append.2 ⟨h.of.1, List.pairwise_singleton _ _, fun a ha b hb => ?_⟩
      rw [List.mem_singleton.1 hb]
      have := ups_last h.of.1 ha
      have := hl (List.length_pos_of_mem ha)
      show a.st < v.stamp
      omega
    · rcases List.mem_append.1 hx with hx | hx
      · exact h.of.2 x hx
      · rw [List.mem_singleton.1 hx]; exact ⟨b5, b6, hv, b3, b4⟩
  · exact h.each p (List.mem_filter.1 hp).1
theorem PsOk.try_ (h : PsOk S top) (hv : v.stamp ≤ top) : PsOk (tryP S v) top := by
  unfold tryP
  split
  · rename_i he
    exact h.apply he hv
  · exact h
theorem PsOk.tries : ∀ {l : List Vn} {S : PS}, PsOk S top → (∀ v ∈ l, v.stamp ≤ top) → PsOk (tryL S l) top
  | [], _, h, _ => h
  | v :: l, _, h, hv => PsOk.tries (l := l) (h.try_ (hv v (List.mem_cons_self ..))) (fun x hx => hv x (List.mem_cons_of_mem _ hx))
theorem PsOk.loads : ∀ {l : List Vn} {S : PS}, PsOk S top → (∀ v ∈ l, v.stamp ≤ top) → PsOk (loadF S l).1 top
  | [], _, h, _ => h
  | v :: l, S, h, hv => by
    unfold loadF
    split
    · rename_i he
      exact PsOk.loads (l := l) (h.apply he (hv v (List.mem_cons_self ..))) (fun x hx => hv x (List.mem_cons_of_mem _ hx))
    · exact h
/-- How many versions there are. -/
def totP (S : PS) : Nat := (S.map fun p => p.2.length).sum
theorem totP_vers (S : PS) : (versF S).length = totP S := by
  unfold versF totP
  rw [List.length_flatMap]
  congr 1
  apply List.map_congr_left
  intro p _
  rw [List.length_map]
theorem totP_apply (h : Rising S) : totP (applyP S v) = totP S + 1 := by
  have h1 : totP (applyP S v) = (ofP S v.k).length + 1 + totP (othersA v.k S) := by
    unfold totP applyP
    rw [((putA_perm v.k (ofP S v.k ++ [(⟨v.stamp, v.value, v.dead⟩ : Lv)]) S).map fun p : Key × List Lv => p.2.length).sum_nat]
    simp
  have h2 : totP S = (ofP S v.k).length + totP (othersA v.k S) := by
    unfold ofP
    cases hg : getA v.k S with
    | none => rw [getA_none hg]; simp
    | some L =>
      unfold totP
      rw [((getA_perm (rising_apart h) hg).map fun p : Key × List Lv => p.2.length).sum_nat]
      simp
  omega
theorem totP_tries : ∀ {l : List Vn} {S : PS}, Rising S → totP (tryL S l) ≤ totP S + l.length
  | [], S, _ => Nat.le_refl _
  | v :: l, S, h => by
    have h1 : Rising (tryP S v) ∧ totP (tryP S v) ≤ totP S + 1 := by
      unfold tryP
      split
      · exact ⟨rising_put h, Nat.le_of_eq (totP_apply h)⟩
      · exact ⟨h, Nat.le_succ _⟩
    have := totP_tries (l := l) h1.1
    show totP (tryL (tryP S v) l) ≤ _
    rw [List.length_cons]; omega
theorem totP_loads : ∀ {l : List Vn} {S : PS}, Rising S → totP (loadF S l).1 ≤ totP S + l.length
  | [], S, _ => Nat.le_refl _
  | v :: l, S, h => by
    unfold loadF
    split
    · have := totP_loads (l := l) (S := applyP S v) (rising_put h)
      rw [totP_apply h] at this
      rw [List.length_cons]; omega
    · show totP S ≤ _; omega
/-! A store loaded from its own versions. -/
theorem loadF_cons {r : List Vn} : loadF S (v :: r) = if errP S v = 0 then loadF (applyP S v) r else (S, errP S v) := rfl
theorem loadF_app : ∀ {a : List Vn} {S S' : PS}, loadF S a = (S', 0) → ∀ b, loadF S (a ++ b) = loadF S' b
  | [], S, S', h, b => by cases h; rfl
  | v :: a, S, S', h, b => by
    rw [List.cons_append, loadF_cons]
    rw [loadF_cons] at h
    by_cases he : errP S v = 0
    · rw [if_pos he] at h ⊢
      exact loadF_app h b
    · rw [if_neg he] at h
      injection h with _ h
      exact absurd h he
def entP (k : Key) (L : List Lv) : PS := if L = [] then [] else [(k, L)]
theorem getA_app {k : Key} {S1 S2 : PS} (h : ∀ p ∈ S1, p.1 ≠ k) : getA k (S1 ++ S2) = getA k S2 := by
  unfold getA
  rw [List.find?_append, List.find?_eq_none.2 (fun p hp => by have := h p hp; simpa using this)]
  rfl
theorem ofP_ent {k : Key} {L : List Lv} {S1 : PS} (h : ∀ p ∈ S1, p.1 ≠ k) : ofP (S1 ++ entP k L) k = L := by
  unfold ofP
  rw [getA_app h]
  unfold entP
  split
  · rename_i e; rw [e]; rfl
  · unfold getA; rw [List.find?_cons_of_pos (by simp)]; rfl
theorem insA_end {x : Key × List Lv} : ∀ {S1 : PS}, (∀ p ∈ S1, bytesBefore p.1 x.1 = true) → insA x S1 = S1 ++ [x]
  | [], _ => rfl
  | y :: r, h => by
    have hy := h y (List.mem_cons_self ..)
    unfold insA
    rw [if_neg (fun h2 => by have := bB_trans hy h2; rw [bB_irrefl] at this; cases this), insA_end (S1 := r) (fun p hp => h p (List.mem_cons_of_mem _ hp))]
    rfl
theorem putA_ent {k : Key} {L : List Lv} {b : List Lv} {S1 : PS} (h : ∀ p ∈ S1, bytesBefore p.1 k = true) : putA k b (S1 ++ entP k L) = S1 ++ [(k, b)] := by
  have hne : ∀ p ∈ S1, p.1 ≠ k := fun p hp e => by have := h p hp; rw [e, bB_irrefl] at this; cases this
  unfold putA
  have : othersA k (S1 ++ entP k L) = S1 := by
    unfold othersA
    rw [List.filter_append, List.filter_eq_self.2 (fun p hp => by have := hne p hp; simpa using this)]
    rw [show (entP k L).filter (fun p => !(p.1 == k)) = [] from by
      unfold entP
      split
      · rfl
      · simp]
    exact List.append_nil _
  rw [this, insA_end h]
theorem load_key {k : Key} {S1 : PS} (h : ∀ p ∈ S1, bytesBefore p.1 k = true) (h1 : 1 ≤ k.length) (h2 : k.length ≤ 255) : ∀ {L L0 : List Lv}, Ups (L0 ++ L) → (∀ x ∈ L0 ++ L, LvOk k top x) → loadF (S1 ++ entP k L0) (L.map (vnOf k)) = (S1 ++ entP k (L0 ++ L), 0)
  | [], L0, _, _ => by rw [List.append_nil]; rfl
  | x :: L, L0, hu, ho => by
    have hne : ∀ p ∈ S1, p.1 ≠ k := fun p hp e => by have := h p hp; rw [e, bB_irrefl] at this; cases this
    have hx := ho x (List.mem_append_right _ (List.mem_cons_self ..))
    have hk : (vnOf k x).k = k := by unfold Vn.k vnOf; simp
    rw [List.map_cons]
    unfold loadF
    rw [if_pos (errP_of (bad_of (v := vnOf k x) (by show 1 ≤ k.toArray.size; rw [List.size_toArray]; exact h1) (by show k.toArray.size ≤ 255; rw [List.size_toArray]; exact h2) hx.len hx.dead hx.low hx.high) (fun hl => by
      rw [hk, ofP_ent hne] at hl ⊢
      have hn : L0 ≠ [] := List.ne_nil_of_length_pos hl
      have hlast : lastP L0 = (L0.getLast hn).st := by
        conv => lhs; rw [← List.dropLast_concat_getLast hn]
        rw [lastP_snoc]
      rw [hlast]
      exact (List.pairwise_append.1 hu).2.2 _ (List.getLast_mem hn) x (List.mem_cons_self ..)))]
    unfold applyP
    rw [hk, ofP_ent hne, putA_ent h]
    have h3 := load_key h h1 h2 (L := L) (L0 := L0 ++ [x]) (by rw [List.append_assoc]; exact hu) (by rw [List.append_assoc]; exact ho)
    rw [List.append_assoc, List.singleton_append] at h3
    rw [← h3, show entP k (L0 ++ [x]) = [(k, L0 ++ [x])] from if_neg (by simp)]
    rfl
theorem load_all : ∀ {S2 S1 : PS}, PsOk (S1 ++ S2) top → loadF S1 (versF S2) = (S1 ++ S2, 0)
  | [], S1, _ => by rw [List.append_nil]; rfl
  | (k, L) :: S2, S1, h => by
    obtain ⟨hn, hu, h1, h2, ho⟩ := h.each (k, L) (List.mem_append_right _ (List.mem_cons_self ..))
    have hb : ∀ p ∈ S1, bytesBefore p.1 k = true := fun p hp => (List.pairwise_append.1 h.rising).2.2 p hp _ (List.mem_cons_self ..)
    have h3 := load_key hb h1 h2 (L := L) (L0 := []) hu ho
    rw [show entP k ([] : List Lv) = [] from if_pos rfl, List.append_nil, List.nil_append, show entP k L = [(k, L)] from if_neg hn] at h3
    show loadF S1 (L.map (vnOf k) ++ versF S2) = _
    rw [loadF_app h3, load_all (S2 := S2) (S1 := S1 ++ [(k, L)]) (by rw [List.append_assoc]; exact h), List.append_assoc]
    rfl
theorem PsOk.load (h : PsOk S top) : loadF [] (versF S) = (S, 0) := load_all (S1 := []) h
/-! Checkpoints. -/
theorem nextB_key {k k' : Key} {x y : Lv} (h : bytesBefore k k' = true) : nextB (vnOf k' y) (vnOf k x) = true := by
  unfold nextB
  have e1 : (vnOf k' y).key.toList = k' := by rw [ByteArray.toList_eq]; unfold vnOf; simp
  have e2 : (vnOf k x).key.toList = k := by rw [ByteArray.toList_eq]; unfold vnOf; simp
  rw [e1, e2, bytesLess_eq]
  have h3 : bytesBefore k' k = false := by
    cases hh : bytesBefore k' k
    · rfl
    · have := bB_trans h hh; rw [bB_irrefl] at this; cases this
  have h4 : (k' == k) = false := by
    rw [beq_eq_false_iff_ne]
    intro e; rw [e, bB_irrefl] at h; cases h
  rw [h3, h4]; rfl
theorem nextB_same {k : Key} {x y : Lv} (h : x.st < y.st) : nextB (vnOf k y) (vnOf k x) = true := by
  unfold nextB
  rw [show (vnOf k y).key = (vnOf k x).key from rfl]
  rw [show ((vnOf k x).key.toList == (vnOf k x).key.toList) = true from by simp, show (vnOf k x).stamp = x.st from rfl, show (vnOf k y).stamp = y.st from rfl, decide_eq_true h]
  simp
theorem PsOk.next (h : PsOk S top) : (versF S).Pairwise fun a b => nextB b a = true := by
  unfold versF
  rw [List.pairwise_flatMap]
  refine ⟨fun p hp => ?_, h.rising.imp ?_⟩
  · rw [List.pairwise_map]
    exact (h.each p hp).2.1.imp fun {a b} hab => nextB_same hab
  · intro p q hpq x hx y hy
    obtain ⟨a, _, rfl⟩ := List.mem_map.1 hx
    obtain ⟨b, _, rfl⟩ := List.mem_map.1 hy
    exact nextB_key hpq
theorem may_5v {v : Vn} : v.ofVersion.may ↔ (1 ≤ v.key.size ∧ v.key.size ≤ 255 ∧ 0 ≤ v.stamp ∧ v.stamp ≤ 4611686018427387904 ∧ v.value.length ≤ 4096 ∧ (v.dead = true → v.value.length = 0)) := by
  unfold En.may Vn.ofVersion
  simp
theorem PsOk.vn (h : PsOk S top) (hv : v ∈ versF S) : v.ofVersion.chk = 0 ∧ v.stamp ≤ top ∧ 0 ≤ v.stamp ∧ v.key.size ≤ 255 ∧ v.value.length ≤ 4096 := by
  unfold versF at hv
  obtain ⟨p, hp, hv⟩ := List.mem_flatMap.1 hv
  obtain ⟨x, hx, rfl⟩ := List.mem_map.1 hv
  obtain ⟨_, _, h1, h2, ho⟩ := h.each p hp
  have hs : (vnOf p.1 x).key.size = p.1.length := by show p.1.toArray.size = _; rw [List.size_toArray]
  have o := ho x hx
  exact ⟨En.chk_ok (may_5v.2 ⟨by omega, by omega, o.low, o.high, o.len, o.dead⟩), o.top, o.low, by omega, o.len⟩
/-- The entries of a checkpoint. -/
def imgF (S : PS) (st : Int) : List En := ⟨4, st, (versF S).length, ⟨#[]⟩, [], false⟩ :: ((versF S).map Vn.ofVersion ++ [⟨6, st, (versF S).length, ⟨#[]⟩, [], false⟩])
theorem imgF_len (st : Int) : (imgF S st).length = totP S + 2 := by unfold imgF; rw [List.length_cons, List.length_append, List.length_map, totP_vers, List.length_singleton]
theorem ckF_ok {now count : Int} {l : List En} {S' : PS} {now' : Int} {n : Nat} (h : ckF now count l = some (S', now', n)) : PsOk S' now' ∧ totP S' ≤ n ∧ now' ≤ 4611686018427387904 ∧ 0 ≤ now' := by
  cases l with
  | nil => cases h
  | cons o q =>
    rw [ckF_cons] at h
    split at h
    · cases h
    · rename_i h0
      split at h
      · cases h
      · split at h
        · cases h
        · rename_i vs hvs
          split at h
          · cases h
          · split at h
            · split at h
              · rename_i h4
                injection h with h
                injection h with e1 h
                injection h with e2 h
                subst h; subst e1; subst e2
                have hv : ∀ {l : List En} {prev vs : List Vn}, ckV o.stamp prev l = some vs → (∀ v ∈ prev, v.stamp ≤ o.stamp) → (∀ v ∈ vs, v.stamp ≤ o.stamp) ∧ vs.length = prev.length + l.length := by
                  intro l
                  induction l with
                  | nil => intro prev vs h hp; cases h; exact ⟨hp, rfl⟩
                  | cons e l ih =>
                    intro prev vs h hp
                    unfold ckV at h
                    split at h
                    · cases h
                    · rename_i h5
                      split at h
                      · cases h
                      · obtain ⟨a, b⟩ := ih h (fun v hv => by
                          rcases List.mem_append.1 hv with hv | hv
                          · exact hp v hv
                          · rw [List.mem_singleton.1 hv]; show e.stamp ≤ _
                            have : ¬ o.stamp < e.stamp := fun hh => h5 (.inr (.inr hh))
                            omega)
                        refine ⟨a, ?_⟩
                        rw [b, List.length_append, List.length_singleton, List.length_cons]; omega
                obtain ⟨a, b⟩ := hv hvs (fun _ h => (by cases h))
                have h1 : o.chk = 0 := Decidable.not_not.1 (fun hh => h0 (.inl hh))
                have ho : o.stamp ≤ 4611686018427387904 ∧ 0 ≤ o.stamp := by
                  unfold En.chk at h1
                  by_cases hm : o.may
                  · unfold En.may at hm
                    split at hm
                    · omega
                    · split at hm
                      · omega
                      · split at hm
                        · omega
                        · split at hm
                          · omega
                          · exact hm.elim
                  · rw [if_neg hm] at h1; cases h1
                refine ⟨PsOk.nil.loads a, ?_, ho.1, ho.2⟩
                have := totP_loads (l := vs) (S := []) List.Pairwise.nil
                rw [List.length_nil, Nat.zero_add] at b
                rw [List.length_take] at b
                have e : totP [] = 0 := rfl
                omega
              · cases h
            · cases h
theorem Grp.ok {l : List En} {start now : Int} {k : Nat} (h : Grp l start S now k) : PsOk S now ∧ totP S ≤ k ∧ (k = 0 → S = [] ∧ now = start) ∧ (0 < k → 0 ≤ now ∧ now ≤ 4611686018427387904) := by
  induction h with
  | zero => exact ⟨PsOk.nil, Nat.le_refl _, fun _ => ⟨rfl, rfl⟩, fun h => absurd h (Nat.lt_irrefl _)⟩
  | @step S S' now now' k n r h ih =>
    have hn := grpF_len h
    refine ⟨?_, ?_, fun hk => by omega, ?_⟩
    all_goals
      cases hd : l.drop k with
      | nil => rw [hd] at h; cases h
      | cons o q =>
        rw [hd] at h
        rw [grpF_cons] at h
        split at h
        · have hc := ckF_ok h
          first | exact hc.1 | exact Nat.le_trans hc.2.1 (by omega) | exact fun _ => ⟨hc.2.2.2, hc.2.2.1⟩
        · split at h
          · cases h
          · rename_i p hp
            injection h with h
            injection h with e1 h
            injection h with e2 e3
            have ht : ∀ {l prev : List En} {m : Int}, comG m prev l = some p → 0 ≤ m ∧ m ≤ 4611686018427387904 := by
              intro l
              induction l with
              | nil => intro prev m h; cases h
              | cons e l ih2 =>
                intro prev m h
                unfold comG at h
                split at h
                · cases h
                · rename_i h0
                  split at h
                  · split at h
                    · cases h
                    · exact ih2 h
                  · split at h
                    · rename_i h3
                      split at h
                      · cases h
                      · rename_i h4
                        have h1 : e.chk = 0 := Decidable.not_not.1 h0
                        have h5 : e.stamp = m := Decidable.not_not.1 (fun hh => h4 (.inr (.inl hh)))
                        unfold En.chk at h1
                        by_cases hm : e.may
                        · unfold En.may at hm
                          rw [if_neg (by omega), if_neg (by omega), if_pos (.inl h3)] at hm
                          omega
                        · rw [if_neg hm] at h1; cases h1
                    · cases h
            have hm := ht hp
            first
              | exact e1 ▸ e2 ▸ (by
                  have hnow : PsOk S (IntKind.i64.wrap (now + 1)) := by
                    rcases Nat.eq_zero_or_pos k with hk | hk
                    · rw [(ih.2.2.1 hk).1]; exact PsOk.nil
                    · have := ih.2.2.2 hk
                      exact ih.1.wide (by rw [IntKind.wrap_i64]; omega)
                  exact hnow.tries (fun v hv => by
                    obtain ⟨x, _, rfl⟩ := List.mem_map.1 hv
                    exact Int.le_refl _))
              | exact e1 ▸ e3 ▸ (by
                  have := totP_tries (l := p.map (wOf (IntKind.i64.wrap (now + 1)))) ih.1.rising
                  rw [List.length_map] at this
                  omega)
              | exact fun _ => e2 ▸ hm
end
end Go.Proofs.YtmnpchncmbnddaaGreat
