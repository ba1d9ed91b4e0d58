/- Contracts and plain laws that this claim leans on, laid together: Ent1, Ent4, Ent6, TwoR. -/
import Derived.Test.YtmnpchncmbnddaaG01
import Derived.Test.YtmnpchncmbnddaaG02
import Derived.Laws.Strings
import Derived.Deep.RegionHeld3
set_option linter.all false
set_option linter.unusedVariables false
set_option linter.unusedSimpArgs false
set_option linter.unnecessarySimpa false
/- Entries: how they lie in memory; fields and Check of package entry. -/
namespace Go.Proofs.Ytmnpchncmbnddaa
open Go.RowKit

/-- An entry. -/
structure En where
  kind : Int
  stamp : Int
  count : Int
  key : ByteArray
  value : List UInt8
  dead : Bool
def En.cells (e : En) (A : Option Addr) (c : Nat) : Array Value := #[.int .i64 e.kind, .int .i64 e.stamp, .int .i64 e.count, .string e.key, .slice A e.value.length c, .bool e.dead]
/-- An entry may be. -/
def En.may (e : En) : Prop :=
  if e.kind = 1 then 1 ≤ e.key.size ∧ e.key.size ≤ 255 ∧ e.stamp = 0 ∧ e.count = 0 ∧ e.dead = false ∧ e.value.length ≤ 4096
  else if e.kind = 2 then 1 ≤ e.key.size ∧ e.key.size ≤ 255 ∧ e.stamp = 0 ∧ e.count = 0 ∧ e.dead = false ∧ e.value.length = 0
  else if e.kind = 3 ∨ e.kind = 4 ∨ e.kind = 6 then e.key.size = 0 ∧ 0 ≤ e.stamp ∧ e.stamp ≤ 4611686018427387904 ∧ 0 ≤ e.count ∧ e.count ≤ 2147483647 ∧ e.dead = false ∧ e.value.length = 0
  else if e.kind = 5 then 1 ≤ e.key.size ∧ e.key.size ≤ 255 ∧ 0 ≤ e.stamp ∧ e.stamp ≤ 4611686018427387904 ∧ e.count = 0 ∧ e.value.length ≤ 4096 ∧ (e.dead = true → e.value.length = 0)
  else False
open Classical in
noncomputable def En.chk (e : En) : Int := if e.may then 0 else 100
theorem En.chk_ok {e : En} (h : e.may) : e.chk = 0 := if_pos h
theorem En.chk_no {e : En} (h : ¬ e.may) : e.chk = 100 := if_neg h

/-- The fields that count of a kind, as bits. -/
def fieldsF (k : Int) : Int := if k = 1 then 17 else if k = 2 then 1 else if k = 3 ∨ k = 4 ∨ k = 6 then 6 else if k = 5 then 27 else 0
theorem fields_any {w : World} (k : Int) : Calls Try.prog 51 #[.int .i64 k] w fun e w' => e = .returned (.int .i64 (fieldsF k)) ∧ w = w' := by
  by_cases h1 : k = 1
  · subst h1
    go_enter Try.func51, Try.ntmps51
    go_wp2
    go_ret
    exact ⟨rfl, rfl⟩
  by_cases h2 : k = 2
  · subst h2
    go_enter Try.func51, Try.ntmps51
    go_wp2
    go_ret
    exact ⟨rfl, rfl⟩
  by_cases h3 : k = 3
  · subst h3
    go_enter Try.func51, Try.ntmps51
    go_wp2
    go_ret
    exact ⟨rfl, rfl⟩
  by_cases h4 : k = 4
  · subst h4
    go_enter Try.func51, Try.ntmps51
    go_wp2
    go_ret
    exact ⟨rfl, rfl⟩
  by_cases h6 : k = 6
  · subst h6
    go_enter Try.func51, Try.ntmps51
    go_wp2
    go_ret
    exact ⟨rfl, rfl⟩
  by_cases h5 : k = 5
  · subst h5
    go_enter Try.func51, Try.ntmps51
    go_wp2
    go_ret
    exact ⟨rfl, rfl⟩
  have HE := Lib.hid (show fieldsF k = 0 from by unfold fieldsF; rw [if_neg h1, if_neg h2, if_neg (by omega), if_neg h5])
  have k1 : (k == 1) = false := by rw [beq_eq_false_iff_ne]; exact h1
  have k2 : (k == 2) = false := by rw [beq_eq_false_iff_ne]; exact h2
  have k3 : (k == 3) = false := by rw [beq_eq_false_iff_ne]; exact h3
  have k4 : (k == 4) = false := by rw [beq_eq_false_iff_ne]; exact h4
  have k5 : (k == 5) = false := by rw [beq_eq_false_iff_ne]; exact h5
  have k6 : (k == 6) = false := by rw [beq_eq_false_iff_ne]; exact h6
  clear h1 h2 h3 h4 h5 h6
  go_enter Try.func51, Try.ntmps51
  go_wp2
  go_ret
  exact ⟨by rw [HE.out]; rfl, rfl⟩
theorem may_1 {s n : Int} {key : ByteArray} {v : List UInt8} {d : Bool} : En.may ⟨1, s, n, key, v, d⟩ = (1 ≤ key.size ∧ key.size ≤ 255 ∧ s = 0 ∧ n = 0 ∧ d = false ∧ v.length ≤ 4096) := if_pos rfl
theorem may_2 {s n : Int} {key : ByteArray} {v : List UInt8} {d : Bool} : En.may ⟨2, s, n, key, v, d⟩ = (1 ≤ key.size ∧ key.size ≤ 255 ∧ s = 0 ∧ n = 0 ∧ d = false ∧ v.length = 0) := (if_neg (by show ¬ ((2 : Int) = 1); decide)).trans (if_pos rfl)
theorem may_m {k s n : Int} {key : ByteArray} {v : List UInt8} {d : Bool} (hk : k = 3 ∨ k = 4 ∨ k = 6) : En.may ⟨k, s, n, key, v, d⟩ = (key.size = 0 ∧ 0 ≤ s ∧ s ≤ 4611686018427387904 ∧ 0 ≤ n ∧ n ≤ 2147483647 ∧ d = false ∧ v.length = 0) :=
  (if_neg (by show ¬ k = 1; omega)).trans ((if_neg (by show ¬ k = 2; omega)).trans (if_pos hk))
theorem may_5 {s n : Int} {key : ByteArray} {v : List UInt8} {d : Bool} : En.may ⟨5, s, n, key, v, d⟩ = (1 ≤ key.size ∧ key.size ≤ 255 ∧ 0 ≤ s ∧ s ≤ 4611686018427387904 ∧ n = 0 ∧ v.length ≤ 4096 ∧ (d = true → v.length = 0)) :=
  (if_neg (by show ¬ ((5 : Int) = 1); decide)).trans ((if_neg (by show ¬ ((5 : Int) = 2); decide)).trans ((if_neg (by show ¬ ((5 : Int) = 3 ∨ (5 : Int) = 4 ∨ (5 : Int) = 6); decide)).trans (if_pos rfl)))
theorem may_x {k s n : Int} {key : ByteArray} {v : List UInt8} {d : Bool} (h : ¬ (1 ≤ k ∧ k ≤ 6)) : ¬ En.may ⟨k, s, n, key, v, d⟩ := by
  unfold En.may
  simp only
  rw [if_neg (by omega), if_neg (by omega), if_neg (by omega), if_neg (by omega)]
  exact id
theorem str_empty {s : ByteArray} (h : s.size = 0) : s = ⟨#[]⟩ := by
  cases s with | mk d => rw [Array.eq_empty_of_size_eq_zero h]
theorem str_ne {s : ByteArray} (h : ¬ s.size = 0) : s.toList.isEmpty = false ∧ (s.toList == []) = false ∧ (s.toList != []) = true := by
  have h2 : s.toList ≠ [] := by
    rw [ByteArray.toList_eq]
    intro e
    have := congrArg List.length e
    rw [Array.length_toList] at this
    exact h this
  cases hl : s.toList with
  | nil => exact absurd hl h2
  | cons a r => exact ⟨rfl, rfl, rfl⟩
theorem and_17_1 : bits .and .i64 17 1 = 1 := by decide
theorem and_17_2 : bits .and .i64 17 2 = 0 := by decide
theorem and_17_4 : bits .and .i64 17 4 = 0 := by decide
theorem and_17_8 : bits .and .i64 17 8 = 0 := by decide
theorem and_17_16 : bits .and .i64 17 16 = 16 := by decide
theorem and_1_1 : bits .and .i64 1 1 = 1 := by decide
theorem and_1_2 : bits .and .i64 1 2 = 0 := by decide
theorem and_1_4 : bits .and .i64 1 4 = 0 := by decide
theorem and_1_8 : bits .and .i64 1 8 = 0 := by decide
theorem and_1_16 : bits .and .i64 1 16 = 0 := by decide
theorem and_6_1 : bits .and .i64 6 1 = 0 := by decide
theorem and_6_2 : bits .and .i64 6 2 = 2 := by decide
theorem and_6_4 : bits .and .i64 6 4 = 4 := by decide
theorem and_6_8 : bits .and .i64 6 8 = 0 := by decide
theorem and_6_16 : bits .and .i64 6 16 = 0 := by decide
theorem and_27_1 : bits .and .i64 27 1 = 1 := by decide
theorem and_27_2 : bits .and .i64 27 2 = 2 := by decide
theorem and_27_4 : bits .and .i64 27 4 = 0 := by decide
theorem and_27_8 : bits .and .i64 27 8 = 8 := by decide
theorem and_27_16 : bits .and .i64 27 16 = 16 := by decide
set_option maxRecDepth 100000 in
set_option maxHeartbeats 3200000 in
theorem check_1 {w : World} {A : Option Addr} {c : Nat} (s n : Int) (key : ByteArray) (v : List UInt8) (d : Bool) (hks : key.size ≤ 140737488355328) (hvl : v.length ≤ 140737488355328) :
    Calls Try.prog 46 #[.agg (En.cells ⟨1, s, n, key, v, d⟩ A c)] w fun e w' => e = .returned (.int .i64 (En.chk ⟨1, s, n, key, v, d⟩)) ∧ Below w.heap.size w w' := by
  unfold En.cells
  simp only
  by_cases hc : 1 ≤ key.size
  · have hK1 : (1 : Int) ≤ key.size := by omega
    clear hc
    by_cases hc : key.size ≤ 255
    · have hK2 : (key.size : Int) ≤ 255 := by omega
      clear hc
      by_cases hc : s = 0
      · subst hc
        by_cases hc : n = 0
        · subst hc
          by_cases hc : d = false
          · subst hc
            by_cases hc : v.length ≤ 4096
            · have hV4 : (v.length : Int) ≤ 4096 := by omega
              clear hc
              have HE := Lib.hid (show En.chk ⟨1, 0, 0, key, v, false⟩ = 0 from En.chk_ok (by rw [may_1]; exact ⟨by omega, by omega, rfl, rfl, rfl, by omega⟩))
              have b1 := and_17_1
              have b2 := and_17_2
              have b4 := and_17_4
              have b8 := and_17_8
              have b16 := and_17_16
              go_enter Try.func46, Try.ntmps46
              go_wp2_with fail
              refine (fields_any 1).mono ?_
              rintro e w1 ⟨rfl, rfl⟩
              rw [show fieldsF 1 = 17 from rfl]
              go_wp2
              all_goals go_ret
              all_goals exact ⟨by rw [HE.out]; rfl, (Below.refl _ _).alloc (Nat.le_refl _) _⟩
            · have hV4 : (4096 : Int) < v.length := by omega
              have HE := Lib.hid (show En.chk ⟨1, 0, 0, key, v, false⟩ = 100 from En.chk_no (by rw [may_1]; rintro ⟨q0, q1, q2, q3, q4, q5⟩; omega))
              clear hc
              have b1 := and_17_1
              have b2 := and_17_2
              have b4 := and_17_4
              have b8 := and_17_8
              have b16 := and_17_16
              go_enter Try.func46, Try.ntmps46
              go_wp2_with fail
              refine (fields_any 1).mono ?_
              rintro e w1 ⟨rfl, rfl⟩
              rw [show fieldsF 1 = 17 from rfl]
              go_wp2
              all_goals go_ret
              all_goals exact ⟨by rw [HE.out]; rfl, (Below.refl _ _).alloc (Nat.le_refl _) _⟩
          · obtain rfl : d = true := by cases d <;> simp_all
            have HE := Lib.hid (show En.chk ⟨1, 0, 0, key, v, true⟩ = 100 from En.chk_no (by rw [may_1]; rintro ⟨q0, q1, q2, q3, q4, q5⟩; cases q4))
            have b1 := and_17_1
            have b2 := and_17_2
            have b4 := and_17_4
            have b8 := and_17_8
            have b16 := and_17_16
            go_enter Try.func46, Try.ntmps46
            go_wp2_with fail
            refine (fields_any 1).mono ?_
            rintro e w1 ⟨rfl, rfl⟩
            rw [show fieldsF 1 = 17 from rfl]
            go_wp2
            all_goals go_ret
            all_goals exact ⟨by rw [HE.out]; rfl, (Below.refl _ _).alloc (Nat.le_refl _) _⟩
        · have hN0 : (n != 0) = true := by rw [bne_iff_ne]; exact hc
          have hN0b : (n == 0) = false := by rw [beq_eq_false_iff_ne]; exact hc
          have HE := Lib.hid (show En.chk ⟨1, 0, n, key, v, d⟩ = 100 from En.chk_no (by rw [may_1]; rintro ⟨q0, q1, q2, q3, q4, q5⟩; exact hc q3))
          clear hc
          have b1 := and_17_1
          have b2 := and_17_2
          have b4 := and_17_4
          have b8 := and_17_8
          have b16 := and_17_16
          go_enter Try.func46, Try.ntmps46
          go_wp2_with fail
          refine (fields_any 1).mono ?_
          rintro e w1 ⟨rfl, rfl⟩
          rw [show fieldsF 1 = 17 from rfl]
          go_wp2
          all_goals go_ret
          all_goals exact ⟨by rw [HE.out]; rfl, (Below.refl _ _).alloc (Nat.le_refl _) _⟩
      · have hS0 : (s != 0) = true := by rw [bne_iff_ne]; exact hc
        have hS0b : (s == 0) = false := by rw [beq_eq_false_iff_ne]; exact hc
        have HE := Lib.hid (show En.chk ⟨1, s, n, key, v, d⟩ = 100 from En.chk_no (by rw [may_1]; rintro ⟨q0, q1, q2, q3, q4, q5⟩; exact hc q2))
        clear hc
        have b1 := and_17_1
        have b2 := and_17_2
        have b4 := and_17_4
        have b8 := and_17_8
        have b16 := and_17_16
        go_enter Try.func46, Try.ntmps46
        go_wp2_with fail
        refine (fields_any 1).mono ?_
        rintro e w1 ⟨rfl, rfl⟩
        rw [show fieldsF 1 = 17 from rfl]
        go_wp2
        all_goals go_ret
        all_goals exact ⟨by rw [HE.out]; rfl, (Below.refl _ _).alloc (Nat.le_refl _) _⟩
    · have hK2 : (255 : Int) < key.size := by omega
      have hK2b : decide ((key.size : Int) ≤ 255) = false := decide_eq_false (by omega)
      have HE := Lib.hid (show En.chk ⟨1, s, n, key, v, d⟩ = 100 from En.chk_no (by rw [may_1]; rintro ⟨q0, q1, q2, q3, q4, q5⟩; omega))
      clear hc
      have b1 := and_17_1
      have b2 := and_17_2
      have b4 := and_17_4
      have b8 := and_17_8
      have b16 := and_17_16
      go_enter Try.func46, Try.ntmps46
      go_wp2_with fail
      refine (fields_any 1).mono ?_
      rintro e w1 ⟨rfl, rfl⟩
      rw [show fieldsF 1 = 17 from rfl]
      go_wp2
      all_goals go_ret
      all_goals exact ⟨by rw [HE.out]; rfl, (Below.refl _ _).alloc (Nat.le_refl _) _⟩
  · have hK1 : (key.size : Int) < 1 := by omega
    have HE := Lib.hid (show En.chk ⟨1, s, n, key, v, d⟩ = 100 from En.chk_no (by rw [may_1]; rintro ⟨q0, q1, q2, q3, q4, q5⟩; omega))
    clear hc
    have b1 := and_17_1
    have b2 := and_17_2
    have b4 := and_17_4
    have b8 := and_17_8
    have b16 := and_17_16
    go_enter Try.func46, Try.ntmps46
    go_wp2_with fail
    refine (fields_any 1).mono ?_
    rintro e w1 ⟨rfl, rfl⟩
    rw [show fieldsF 1 = 17 from rfl]
    go_wp2
    all_goals go_ret
    all_goals exact ⟨by rw [HE.out]; rfl, (Below.refl _ _).alloc (Nat.le_refl _) _⟩
set_option maxRecDepth 100000 in
set_option maxHeartbeats 3200000 in
theorem check_2 {w : World} {A : Option Addr} {c : Nat} (s n : Int) (key : ByteArray) (v : List UInt8) (d : Bool) (hks : key.size ≤ 140737488355328) (hvl : v.length ≤ 140737488355328) :
    Calls Try.prog 46 #[.agg (En.cells ⟨2, s, n, key, v, d⟩ A c)] w fun e w' => e = .returned (.int .i64 (En.chk ⟨2, s, n, key, v, d⟩)) ∧ Below w.heap.size w w' := by
  unfold En.cells
  simp only
  by_cases hc : 1 ≤ key.size
  · have hK1 : (1 : Int) ≤ key.size := by omega
    clear hc
    by_cases hc : key.size ≤ 255
    · have hK2 : (key.size : Int) ≤ 255 := by omega
      clear hc
      by_cases hc : s = 0
      · subst hc
        by_cases hc : n = 0
        · subst hc
          by_cases hc : d = false
          · subst hc
            by_cases hc : v.length = 0
            · obtain rfl := List.eq_nil_of_length_eq_zero hc
              have HE := Lib.hid (show En.chk ⟨2, 0, 0, key, [], false⟩ = 0 from En.chk_ok (by rw [may_2]; exact ⟨by omega, by omega, rfl, rfl, rfl, rfl⟩))
              have b1 := and_1_1
              have b2 := and_1_2
              have b4 := and_1_4
              have b8 := and_1_8
              have b16 := and_1_16
              go_enter Try.func46, Try.ntmps46
              go_wp2_with fail
              refine (fields_any 2).mono ?_
              rintro e w1 ⟨rfl, rfl⟩
              rw [show fieldsF 2 = 1 from rfl]
              go_wp2
              all_goals go_ret
              all_goals exact ⟨by rw [HE.out]; rfl, (Below.refl _ _).alloc (Nat.le_refl _) _⟩
            · have hV0 : (0 : Int) < v.length := by omega
              have HE := Lib.hid (show En.chk ⟨2, 0, 0, key, v, false⟩ = 100 from En.chk_no (by rw [may_2]; rintro ⟨q0, q1, q2, q3, q4, q5⟩; omega))
              clear hc
              have b1 := and_1_1
              have b2 := and_1_2
              have b4 := and_1_4
              have b8 := and_1_8
              have b16 := and_1_16
              go_enter Try.func46, Try.ntmps46
              go_wp2_with fail
              refine (fields_any 2).mono ?_
              rintro e w1 ⟨rfl, rfl⟩
              rw [show fieldsF 2 = 1 from rfl]
              go_wp2
              all_goals go_ret
              all_goals exact ⟨by rw [HE.out]; rfl, (Below.refl _ _).alloc (Nat.le_refl _) _⟩
          · obtain rfl : d = true := by cases d <;> simp_all
            have HE := Lib.hid (show En.chk ⟨2, 0, 0, key, v, true⟩ = 100 from En.chk_no (by rw [may_2]; rintro ⟨q0, q1, q2, q3, q4, q5⟩; cases q4))
            have b1 := and_1_1
            have b2 := and_1_2
            have b4 := and_1_4
            have b8 := and_1_8
            have b16 := and_1_16
            go_enter Try.func46, Try.ntmps46
            go_wp2_with fail
            refine (fields_any 2).mono ?_
            rintro e w1 ⟨rfl, rfl⟩
            rw [show fieldsF 2 = 1 from rfl]
            go_wp2
            all_goals go_ret
            all_goals exact ⟨by rw [HE.out]; rfl, (Below.refl _ _).alloc (Nat.le_refl _) _⟩
        · have hN0 : (n != 0) = true := by rw [bne_iff_ne]; exact hc
          have hN0b : (n == 0) = false := by rw [beq_eq_false_iff_ne]; exact hc
          have HE := Lib.hid (show En.chk ⟨2, 0, n, key, v, d⟩ = 100 from En.chk_no (by rw [may_2]; rintro ⟨q0, q1, q2, q3, q4, q5⟩; exact hc q3))
          clear hc
          have b1 := and_1_1
          have b2 := and_1_2
          have b4 := and_1_4
          have b8 := and_1_8
          have b16 := and_1_16
          go_enter Try.func46, Try.ntmps46
          go_wp2_with fail
          refine (fields_any 2).mono ?_
          rintro e w1 ⟨rfl, rfl⟩
          rw [show fieldsF 2 = 1 from rfl]
          go_wp2
          all_goals go_ret
          all_goals exact ⟨by rw [HE.out]; rfl, (Below.refl _ _).alloc (Nat.le_refl _) _⟩
      · have hS0 : (s != 0) = true := by rw [bne_iff_ne]; exact hc
        have hS0b : (s == 0) = false := by rw [beq_eq_false_iff_ne]; exact hc
        have HE := Lib.hid (show En.chk ⟨2, s, n, key, v, d⟩ = 100 from En.chk_no (by rw [may_2]; rintro ⟨q0, q1, q2, q3, q4, q5⟩; exact hc q2))
        clear hc
        have b1 := and_1_1
        have b2 := and_1_2
        have b4 := and_1_4
        have b8 := and_1_8
        have b16 := and_1_16
        go_enter Try.func46, Try.ntmps46
        go_wp2_with fail
        refine (fields_any 2).mono ?_
        rintro e w1 ⟨rfl, rfl⟩
        rw [show fieldsF 2 = 1 from rfl]
        go_wp2
        all_goals go_ret
        all_goals exact ⟨by rw [HE.out]; rfl, (Below.refl _ _).alloc (Nat.le_refl _) _⟩
    · have hK2 : (255 : Int) < key.size := by omega
      have hK2b : decide ((key.size : Int) ≤ 255) = false := decide_eq_false (by omega)
      have HE := Lib.hid (show En.chk ⟨2, s, n, key, v, d⟩ = 100 from En.chk_no (by rw [may_2]; rintro ⟨q0, q1, q2, q3, q4, q5⟩; omega))
      clear hc
      have b1 := and_1_1
      have b2 := and_1_2
      have b4 := and_1_4
      have b8 := and_1_8
      have b16 := and_1_16
      go_enter Try.func46, Try.ntmps46
      go_wp2_with fail
      refine (fields_any 2).mono ?_
      rintro e w1 ⟨rfl, rfl⟩
      rw [show fieldsF 2 = 1 from rfl]
      go_wp2
      all_goals go_ret
      all_goals exact ⟨by rw [HE.out]; rfl, (Below.refl _ _).alloc (Nat.le_refl _) _⟩
  · have hK1 : (key.size : Int) < 1 := by omega
    have HE := Lib.hid (show En.chk ⟨2, s, n, key, v, d⟩ = 100 from En.chk_no (by rw [may_2]; rintro ⟨q0, q1, q2, q3, q4, q5⟩; omega))
    clear hc
    have b1 := and_1_1
    have b2 := and_1_2
    have b4 := and_1_4
    have b8 := and_1_8
    have b16 := and_1_16
    go_enter Try.func46, Try.ntmps46
    go_wp2_with fail
    refine (fields_any 2).mono ?_
    rintro e w1 ⟨rfl, rfl⟩
    rw [show fieldsF 2 = 1 from rfl]
    go_wp2
    all_goals go_ret
    all_goals exact ⟨by rw [HE.out]; rfl, (Below.refl _ _).alloc (Nat.le_refl _) _⟩
set_option maxRecDepth 100000 in
set_option maxHeartbeats 3200000 in
theorem check_m {w : World} {A : Option Addr} {c : Nat} (k : Int) (hm : k = 3 ∨ k = 4 ∨ k = 6) (s n : Int) (key : ByteArray) (v : List UInt8) (d : Bool) (hks : key.size ≤ 140737488355328) (hvl : v.length ≤ 140737488355328) :
    Calls Try.prog 46 #[.agg (En.cells ⟨k, s, n, key, v, d⟩ A c)] w fun e w' => e = .returned (.int .i64 (En.chk ⟨k, s, n, key, v, d⟩)) ∧ Below w.heap.size w w' := by
  unfold En.cells
  simp only
  have HF := Lib.hid (show fieldsF k = 6 from by unfold fieldsF; rw [if_neg (by omega), if_neg (by omega), if_pos hm])
  by_cases hc : key.size = 0
  · obtain rfl := str_empty hc
    by_cases hc : 0 ≤ s
    · have hS1 : 0 ≤ s := hc
      clear hc
      by_cases hc : s ≤ 4611686018427387904
      · have hS2 : s ≤ 4611686018427387904 := hc
        clear hc
        by_cases hc : 0 ≤ n
        · have hN1 : 0 ≤ n := hc
          clear hc
          by_cases hc : n ≤ 2147483647
          · have hN2 : n ≤ 2147483647 := hc
            clear hc
            by_cases hc : d = false
            · subst hc
              by_cases hc : v.length = 0
              · obtain rfl := List.eq_nil_of_length_eq_zero hc
                have HE := Lib.hid (show En.chk ⟨k, s, n, ⟨#[]⟩, [], false⟩ = 0 from En.chk_ok (by rw [may_m hm]; exact ⟨rfl, by omega, by omega, by omega, by omega, rfl, rfl⟩))
                have b1 := and_6_1
                have b2 := and_6_2
                have b4 := and_6_4
                have b8 := and_6_8
                have b16 := and_6_16
                go_enter Try.func46, Try.ntmps46
                go_wp2_with fail
                refine (fields_any k).mono ?_
                rintro e w1 ⟨rfl, rfl⟩
                rw [HF.out]
                go_wp2
                all_goals go_ret
                all_goals exact ⟨by rw [HE.out]; rfl, (Below.refl _ _).alloc (Nat.le_refl _) _⟩
              · have hV0 : (0 : Int) < v.length := by omega
                have HE := Lib.hid (show En.chk ⟨k, s, n, ⟨#[]⟩, v, false⟩ = 100 from En.chk_no (by rw [may_m hm]; rintro ⟨q0, q1, q2, q3, q4, q5, q6⟩; omega))
                clear hc
                have b1 := and_6_1
                have b2 := and_6_2
                have b4 := and_6_4
                have b8 := and_6_8
                have b16 := and_6_16
                go_enter Try.func46, Try.ntmps46
                go_wp2_with fail
                refine (fields_any k).mono ?_
                rintro e w1 ⟨rfl, rfl⟩
                rw [HF.out]
                go_wp2
                all_goals go_ret
                all_goals exact ⟨by rw [HE.out]; rfl, (Below.refl _ _).alloc (Nat.le_refl _) _⟩
            · obtain rfl : d = true := by cases d <;> simp_all
              have HE := Lib.hid (show En.chk ⟨k, s, n, ⟨#[]⟩, v, true⟩ = 100 from En.chk_no (by rw [may_m hm]; rintro ⟨q0, q1, q2, q3, q4, q5, q6⟩; cases q5))
              have b1 := and_6_1
              have b2 := and_6_2
              have b4 := and_6_4
              have b8 := and_6_8
              have b16 := and_6_16
              go_enter Try.func46, Try.ntmps46
              go_wp2_with fail
              refine (fields_any k).mono ?_
              rintro e w1 ⟨rfl, rfl⟩
              rw [HF.out]
              go_wp2
              all_goals go_ret
              all_goals exact ⟨by rw [HE.out]; rfl, (Below.refl _ _).alloc (Nat.le_refl _) _⟩
          · have hN2 : 2147483647 < n := by omega
            have HE := Lib.hid (show En.chk ⟨k, s, n, ⟨#[]⟩, v, d⟩ = 100 from En.chk_no (by rw [may_m hm]; rintro ⟨q0, q1, q2, q3, q4, q5, q6⟩; omega))
            clear hc
            have b1 := and_6_1
            have b2 := and_6_2
            have b4 := and_6_4
            have b8 := and_6_8
            have b16 := and_6_16
            go_enter Try.func46, Try.ntmps46
            go_wp2_with fail
            refine (fields_any k).mono ?_
            rintro e w1 ⟨rfl, rfl⟩
            rw [HF.out]
            go_wp2
            all_goals go_ret
            all_goals exact ⟨by rw [HE.out]; rfl, (Below.refl _ _).alloc (Nat.le_refl _) _⟩
        · have hN1 : n < 0 := by omega
          have HE := Lib.hid (show En.chk ⟨k, s, n, ⟨#[]⟩, v, d⟩ = 100 from En.chk_no (by rw [may_m hm]; rintro ⟨q0, q1, q2, q3, q4, q5, q6⟩; omega))
          clear hc
          have b1 := and_6_1
          have b2 := and_6_2
          have b4 := and_6_4
          have b8 := and_6_8
          have b16 := and_6_16
          go_enter Try.func46, Try.ntmps46
          go_wp2_with fail
          refine (fields_any k).mono ?_
          rintro e w1 ⟨rfl, rfl⟩
          rw [HF.out]
          go_wp2
          all_goals go_ret
          all_goals exact ⟨by rw [HE.out]; rfl, (Below.refl _ _).alloc (Nat.le_refl _) _⟩
      · have hS2 : 4611686018427387904 < s := by omega
        have HE := Lib.hid (show En.chk ⟨k, s, n, ⟨#[]⟩, v, d⟩ = 100 from En.chk_no (by rw [may_m hm]; rintro ⟨q0, q1, q2, q3, q4, q5, q6⟩; omega))
        clear hc
        have b1 := and_6_1
        have b2 := and_6_2
        have b4 := and_6_4
        have b8 := and_6_8
        have b16 := and_6_16
        go_enter Try.func46, Try.ntmps46
        go_wp2_with fail
        refine (fields_any k).mono ?_
        rintro e w1 ⟨rfl, rfl⟩
        rw [HF.out]
        go_wp2
        all_goals go_ret
        all_goals exact ⟨by rw [HE.out]; rfl, (Below.refl _ _).alloc (Nat.le_refl _) _⟩
    · have hS1 : s < 0 := by omega
      have HE := Lib.hid (show En.chk ⟨k, s, n, ⟨#[]⟩, v, d⟩ = 100 from En.chk_no (by rw [may_m hm]; rintro ⟨q0, q1, q2, q3, q4, q5, q6⟩; omega))
      clear hc
      have b1 := and_6_1
      have b2 := and_6_2
      have b4 := and_6_4
      have b8 := and_6_8
      have b16 := and_6_16
      go_enter Try.func46, Try.ntmps46
      go_wp2_with fail
      refine (fields_any k).mono ?_
      rintro e w1 ⟨rfl, rfl⟩
      rw [HF.out]
      go_wp2
      all_goals go_ret
      all_goals exact ⟨by rw [HE.out]; rfl, (Below.refl _ _).alloc (Nat.le_refl _) _⟩
  · obtain ⟨hKE1, hKE2, hKE3⟩ := str_ne hc
    have hKE4 : (0 : Int) < key.size := by omega
    have HE := Lib.hid (show En.chk ⟨k, s, n, key, v, d⟩ = 100 from En.chk_no (by rw [may_m hm]; rintro ⟨q0, q1, q2, q3, q4, q5, q6⟩; omega))
    clear hc
    have b1 := and_6_1
    have b2 := and_6_2
    have b4 := and_6_4
    have b8 := and_6_8
    have b16 := and_6_16
    go_enter Try.func46, Try.ntmps46
    go_wp2_with fail
    refine (fields_any k).mono ?_
    rintro e w1 ⟨rfl, rfl⟩
    rw [HF.out]
    go_wp2
    all_goals go_ret
    all_goals exact ⟨by rw [HE.out]; rfl, (Below.refl _ _).alloc (Nat.le_refl _) _⟩
set_option maxRecDepth 100000 in
set_option maxHeartbeats 3200000 in
theorem check_5 {w : World} {A : Option Addr} {c : Nat} (s n : Int) (key : ByteArray) (v : List UInt8) (d : Bool) (hks : key.size ≤ 140737488355328) (hvl : v.length ≤ 140737488355328) :
    Calls Try.prog 46 #[.agg (En.cells ⟨5, s, n, key, v, d⟩ A c)] w fun e w' => e = .returned (.int .i64 (En.chk ⟨5, s, n, key, v, d⟩)) ∧ Below w.heap.size w w' := by
  unfold En.cells
  simp only
  by_cases hc : 1 ≤ key.size
  · have hK1 : (1 : Int) ≤ key.size := by omega
    clear hc
    by_cases hc : key.size ≤ 255
    · have hK2 : (key.size : Int) ≤ 255 := by omega
      clear hc
      by_cases hc : 0 ≤ s
      · have hS1 : 0 ≤ s := hc
        clear hc
        by_cases hc : s ≤ 4611686018427387904
        · have hS2 : s ≤ 4611686018427387904 := hc
          clear hc
          by_cases hc : n = 0
          · subst hc
            by_cases hc : d = false
            · subst hc
              by_cases hc : v.length ≤ 4096
              · have hV4 : (v.length : Int) ≤ 4096 := by omega
                clear hc
                have HE := Lib.hid (show En.chk ⟨5, s, 0, key, v, false⟩ = 0 from En.chk_ok (by rw [may_5]; exact ⟨by omega, by omega, by omega, by omega, rfl, by first | omega | exact Nat.zero_le _, fun hd => by first | rfl | cases hd⟩))
                have b1 := and_27_1
                have b2 := and_27_2
                have b4 := and_27_4
                have b8 := and_27_8
                have b16 := and_27_16
                go_enter Try.func46, Try.ntmps46
                go_wp2_with fail
                refine (fields_any 5).mono ?_
                rintro e w1 ⟨rfl, rfl⟩
                rw [show fieldsF 5 = 27 from rfl]
                go_wp2
                all_goals go_ret
                all_goals exact ⟨by rw [HE.out]; rfl, (Below.refl _ _).alloc (Nat.le_refl _) _⟩
              · have hV4 : (4096 : Int) < v.length := by omega
                have HE := Lib.hid (show En.chk ⟨5, s, 0, key, v, false⟩ = 100 from En.chk_no (by rw [may_5]; rintro ⟨q0, q1, q2, q3, q4, q5, q6⟩; omega))
                clear hc
                have b1 := and_27_1
                have b2 := and_27_2
                have b4 := and_27_4
                have b8 := and_27_8
                have b16 := and_27_16
                go_enter Try.func46, Try.ntmps46
                go_wp2_with fail
                refine (fields_any 5).mono ?_
                rintro e w1 ⟨rfl, rfl⟩
                rw [show fieldsF 5 = 27 from rfl]
                go_wp2
                all_goals go_ret
                all_goals exact ⟨by rw [HE.out]; rfl, (Below.refl _ _).alloc (Nat.le_refl _) _⟩
            · obtain rfl : d = true := by cases d <;> simp_all
              by_cases hc : v.length = 0
              · obtain rfl := List.eq_nil_of_length_eq_zero hc
                have HE := Lib.hid (show En.chk ⟨5, s, 0, key, [], true⟩ = 0 from En.chk_ok (by rw [may_5]; exact ⟨by omega, by omega, by omega, by omega, rfl, by first | omega | exact Nat.zero_le _, fun hd => by first | rfl | cases hd⟩))
                have b1 := and_27_1
                have b2 := and_27_2
                have b4 := and_27_4
                have b8 := and_27_8
                have b16 := and_27_16
                go_enter Try.func46, Try.ntmps46
                go_wp2_with fail
                refine (fields_any 5).mono ?_
                rintro e w1 ⟨rfl, rfl⟩
                rw [show fieldsF 5 = 27 from rfl]
                go_wp2
                all_goals go_ret
                all_goals exact ⟨by rw [HE.out]; rfl, (Below.refl _ _).alloc (Nat.le_refl _) _⟩
              · have hV0 : (0 : Int) < v.length := by omega
                have HE := Lib.hid (show En.chk ⟨5, s, 0, key, v, true⟩ = 100 from En.chk_no (by rw [may_5]; rintro ⟨q0, q1, q2, q3, q4, q5, q6⟩; have := q6 rfl; omega))
                have b1 := and_27_1
                have b2 := and_27_2
                have b4 := and_27_4
                have b8 := and_27_8
                have b16 := and_27_16
                go_enter Try.func46, Try.ntmps46
                go_wp2_with fail
                refine (fields_any 5).mono ?_
                rintro e w1 ⟨rfl, rfl⟩
                rw [show fieldsF 5 = 27 from rfl]
                go_wp2
                all_goals go_ret
                all_goals exact ⟨by rw [HE.out]; rfl, (Below.refl _ _).alloc (Nat.le_refl _) _⟩
          · have hN0 : (n != 0) = true := by rw [bne_iff_ne]; exact hc
            have hN0b : (n == 0) = false := by rw [beq_eq_false_iff_ne]; exact hc
            have HE := Lib.hid (show En.chk ⟨5, s, n, key, v, d⟩ = 100 from En.chk_no (by rw [may_5]; rintro ⟨q0, q1, q2, q3, q4, q5, q6⟩; exact hc q4))
            clear hc
            have b1 := and_27_1
            have b2 := and_27_2
            have b4 := and_27_4
            have b8 := and_27_8
            have b16 := and_27_16
            go_enter Try.func46, Try.ntmps46
            go_wp2_with fail
            refine (fields_any 5).mono ?_
            rintro e w1 ⟨rfl, rfl⟩
            rw [show fieldsF 5 = 27 from rfl]
            go_wp2
            all_goals go_ret
            all_goals exact ⟨by rw [HE.out]; rfl, (Below.refl _ _).alloc (Nat.le_refl _) _⟩
        · have hS2 : 4611686018427387904 < s := by omega
          have HE := Lib.hid (show En.chk ⟨5, s, n, key, v, d⟩ = 100 from En.chk_no (by rw [may_5]; rintro ⟨q0, q1, q2, q3, q4, q5, q6⟩; omega))
          clear hc
          have b1 := and_27_1
          have b2 := and_27_2
          have b4 := and_27_4
          have b8 := and_27_8
          have b16 := and_27_16
          go_enter Try.func46, Try.ntmps46
          go_wp2_with fail
          refine (fields_any 5).mono ?_
          rintro e w1 ⟨rfl, rfl⟩
          rw [show fieldsF 5 = 27 from rfl]
          go_wp2
          all_goals go_ret
          all_goals exact ⟨by rw [HE.out]; rfl, (Below.refl _ _).alloc (Nat.le_refl _) _⟩
      · have hS1 : s < 0 := by omega
        have HE := Lib.hid (show En.chk ⟨5, s, n, key, v, d⟩ = 100 from En.chk_no (by rw [may_5]; rintro ⟨q0, q1, q2, q3, q4, q5, q6⟩; omega))
        clear hc
        have b1 := and_27_1
        have b2 := and_27_2
        have b4 := and_27_4
        have b8 := and_27_8
        have b16 := and_27_16
        go_enter Try.func46, Try.ntmps46
        go_wp2_with fail
        refine (fields_any 5).mono ?_
        rintro e w1 ⟨rfl, rfl⟩
        rw [show fieldsF 5 = 27 from rfl]
        go_wp2
        all_goals go_ret
        all_goals exact ⟨by rw [HE.out]; rfl, (Below.refl _ _).alloc (Nat.le_refl _) _⟩
    · have hK2 : (255 : Int) < key.size := by omega
      have hK2b : decide ((key.size : Int) ≤ 255) = false := decide_eq_false (by omega)
      have HE := Lib.hid (show En.chk ⟨5, s, n, key, v, d⟩ = 100 from En.chk_no (by rw [may_5]; rintro ⟨q0, q1, q2, q3, q4, q5, q6⟩; omega))
      clear hc
      have b1 := and_27_1
      have b2 := and_27_2
      have b4 := and_27_4
      have b8 := and_27_8
      have b16 := and_27_16
      go_enter Try.func46, Try.ntmps46
      go_wp2_with fail
      refine (fields_any 5).mono ?_
      rintro e w1 ⟨rfl, rfl⟩
      rw [show fieldsF 5 = 27 from rfl]
      go_wp2
      all_goals go_ret
      all_goals exact ⟨by rw [HE.out]; rfl, (Below.refl _ _).alloc (Nat.le_refl _) _⟩
  · have hK1 : (key.size : Int) < 1 := by omega
    have HE := Lib.hid (show En.chk ⟨5, s, n, key, v, d⟩ = 100 from En.chk_no (by rw [may_5]; rintro ⟨q0, q1, q2, q3, q4, q5, q6⟩; omega))
    clear hc
    have b1 := and_27_1
    have b2 := and_27_2
    have b4 := and_27_4
    have b8 := and_27_8
    have b16 := and_27_16
    go_enter Try.func46, Try.ntmps46
    go_wp2_with fail
    refine (fields_any 5).mono ?_
    rintro e w1 ⟨rfl, rfl⟩
    rw [show fieldsF 5 = 27 from rfl]
    go_wp2
    all_goals go_ret
    all_goals exact ⟨by rw [HE.out]; rfl, (Below.refl _ _).alloc (Nat.le_refl _) _⟩
theorem check_x {w : World} {A : Option Addr} {c : Nat} (k s n : Int) (key : ByteArray) (v : List UInt8) (d : Bool) (hk : ¬ (1 ≤ k ∧ k ≤ 6)) (hks : key.size ≤ 140737488355328) (hvl : v.length ≤ 140737488355328) :
    Calls Try.prog 46 #[.agg (En.cells ⟨k, s, n, key, v, d⟩ A c)] w fun e w' => e = .returned (.int .i64 (En.chk ⟨k, s, n, key, v, d⟩)) ∧ Below w.heap.size w w' := by
  have HE := Lib.hid (En.chk_no (may_x (s := s) (n := n) (key := key) (v := v) (d := d) hk))
  have HF := Lib.hid (show fieldsF k = 0 from by unfold fieldsF; rw [if_neg (by omega), if_neg (by omega), if_neg (by omega), if_neg (by omega)])
  unfold En.cells
  simp only
  clear hk
  go_enter Try.func46, Try.ntmps46
  go_wp2_with fail
  refine (fields_any k).mono ?_
  rintro e w1 ⟨rfl, rfl⟩
  rw [HF.out]
  go_wp2
  all_goals go_ret
  all_goals exact ⟨by rw [HE.out]; rfl, (Below.refl _ _).alloc (Nat.le_refl _) _⟩
theorem check_any {w : World} {A : Option Addr} {c : Nat} (x : En) (hks : x.key.size ≤ 140737488355328) (hvl : x.value.length ≤ 140737488355328) :
    Calls Try.prog 46 #[.agg (x.cells A c)] w fun e w' => e = .returned (.int .i64 x.chk) ∧ Below w.heap.size w w' := by
  obtain ⟨k, s, n, key, v, d⟩ := x
  by_cases h1 : k = 1
  · subst h1; exact check_1 s n key v d hks hvl
  by_cases h2 : k = 2
  · subst h2; exact check_2 s n key v d hks hvl
  by_cases h5 : k = 5
  · subst h5; exact check_5 s n key v d hks hvl
  by_cases hm : k = 3 ∨ k = 4 ∨ k = 6
  · exact check_m k hm s n key v d hks hvl
  · exact check_x k s n key v d (by omega) hks hvl
end Go.Proofs.Ytmnpchncmbnddaa
/- The bytes of an entry; own, bytes.Equal, Encode of package entry: by contract (printed by a program of this claim's own). -/
namespace Go.Proofs.Ytmnpchncmbnddaa
open Go.RowKit

theorem eown_any {w : World} {B c : Nat} {A : Option Addr} {l : List UInt8} (hr : BReads w B A l) (hl : l.length ≤ 140737488355328) :
    Calls Try.prog 109 #[.slice A l.length c] w (GivesB w l) := by
  go_enter Try.func109, Try.ntmps109
  go_wp2_with (at_builtin; refine Stop.of ?_)
  refine ⟨append_bytes (BOwns.nil w _) hr.src (by simpa using hl) (Nat.le_refl _) rfl rfl rfl rfl ?_⟩
  intro v' w1 hown hg _
  go_wp2
  go_ret
  exact ⟨v', rfl, hown, below_of_nil hg⟩
theorem rown_any {w : World} {B c : Nat} {A : Option Addr} {l : List UInt8} (hr : BReads w B A l) (hl : l.length ≤ 140737488355328) :
    Calls Try.prog 108 #[.slice A l.length c] w (GivesB w l) := by
  go_enter Try.func108, Try.ntmps108
  go_wp2_with (at_builtin; refine Stop.of ?_)
  refine ⟨append_bytes (BOwns.nil w _) hr.src (by simpa using hl) (Nat.le_refl _) rfl rfl rfl rfl ?_⟩
  intro v' w1 hown hg _
  go_wp2
  go_ret
  exact ⟨v', rfl, hown, below_of_nil hg⟩
/-- The bytes of an entry that may be. -/
def En.enc (e : En) : List UInt8 :=
  if e.kind = 1 then [1] ++ intF e.key.size ++ e.key.data.toList ++ intF e.value.length ++ e.value
  else if e.kind = 2 then [2] ++ intF e.key.size ++ e.key.data.toList
  else if e.kind = 5 then [5] ++ intF e.key.size ++ e.key.data.toList ++ intF e.stamp ++ [if e.dead then 1 else 0] ++ intF e.value.length ++ e.value
  else [UInt8.ofNat e.kind.toNat] ++ intF e.stamp ++ intF e.count
theorem En.may_bounds {e : En} (h : e.may) : e.key.size ≤ 255 ∧ e.value.length ≤ 4096 ∧ 0 ≤ e.stamp ∧ e.stamp ≤ 4611686018427387904 ∧ 0 ≤ e.count ∧ e.count ≤ 2147483647 ∧ 1 ≤ e.kind ∧ e.kind ≤ 6 := by
  unfold En.may at h
  split at h
  · omega
  · split at h
    · omega
    · split at h
      · omega
      · split at h
        · omega
        · exact h.elim
end Go.Proofs.Ytmnpchncmbnddaa
/- Versions: how they lie in memory; OfWrite, OfVersion, Version of package entry and of the reference: by contract. -/
namespace Go.Proofs.Ytmnpchncmbnddaa
open Go.RowKit

/-- A version. -/
structure Vn where
  key : ByteArray
  stamp : Int
  value : List UInt8
  dead : Bool
def Vn.cells (e : Vn) (A : Option Addr) (c : Nat) : Array Value := #[.string e.key, .int .i64 e.stamp, .slice A e.value.length c, .bool e.dead]
def Vn.ofVersion (v : Vn) : En := ⟨5, v.stamp, 0, v.key, v.value, v.dead⟩
def En.version (e : En) : Vn × Bool :=
  if e.kind = 1 then (⟨e.key, 0, e.value, false⟩, true) else if e.kind = 2 then (⟨e.key, 0, [], true⟩, true) else if e.kind = 5 then (⟨e.key, e.stamp, e.value, e.dead⟩, true) else (⟨⟨#[]⟩, 0, [], false⟩, false)
/-- The call answers an entry whose value is new memory. -/
def GivesE (w : World) (x : En) (e : Ending) (w' : World) : Prop := ∃ A c, e = .returned (.agg (x.cells A c)) ∧ BOwns w' w.heap.size (.slice A x.value.length c) x.value ∧ Below w.heap.size w w'
/-- The call answers a version whose value is new memory, and a bool. -/
def GivesV (w : World) (x : Vn × Bool) (e : Ending) (w' : World) : Prop := ∃ A c, e = .returned (.tuple #[.agg (x.1.cells A c), .bool x.2]) ∧ BOwns w' w.heap.size (.slice A x.1.value.length c) x.1.value ∧ Below w.heap.size w w'
/-- Four cells of a block, written. -/
def set4 (w : World) (g : Nat) (u0 u1 u2 u3 : Value) : World := ((((w.setCell ⟨g, 0, none⟩ u0).setCell ⟨g, 1, none⟩ u1).setCell ⟨g, 2, none⟩ u2).setCell ⟨g, 3, none⟩ u3)
theorem Blk.put4 {w : World} {g : Nat} {t : TypeId} {a0 a1 a2 a3 : Value} (h : Blk w g t #[a0, a1, a2, a3]) (u0 u1 u2 u3 : Value) : Blk (set4 w g u0 u1 u2 u3) g t #[u0, u1, u2, u3] := by
  have := ((((h.set_ 0 u0).set_ 1 u1).set_ 2 u2).set_ 3 u3)
  unfold set4
  simpa using this
theorem keeps_set4 (w : World) (g : Nat) (u0 u1 u2 u3 : Value) : Keeps (fun k => k = g) w (set4 w g u0 u1 u2 u3) :=
  ((((Keeps.refl (fun k => k = g) w).setCell (p := ⟨g, 0, none⟩) (.inl rfl) u0).setCell (p := ⟨g, 1, none⟩) (.inl rfl) u1).setCell (p := ⟨g, 2, none⟩) (.inl rfl) u2).setCell (p := ⟨g, 3, none⟩) (.inl rfl) u3
/-- Six cells of a block, written. -/
def set6 (w : World) (g : Nat) (u0 u1 u2 u3 u4 u5 : Value) : World := ((((((w.setCell ⟨g, 0, none⟩ u0).setCell ⟨g, 1, none⟩ u1).setCell ⟨g, 2, none⟩ u2).setCell ⟨g, 3, none⟩ u3).setCell ⟨g, 4, none⟩ u4).setCell ⟨g, 5, none⟩ u5)
theorem Blk.put6 {w : World} {g : Nat} {t : TypeId} {a0 a1 a2 a3 a4 a5 : Value} (h : Blk w g t #[a0, a1, a2, a3, a4, a5]) (u0 u1 u2 u3 u4 u5 : Value) : Blk (set6 w g u0 u1 u2 u3 u4 u5) g t #[u0, u1, u2, u3, u4, u5] := by
  have := ((((((h.set_ 0 u0).set_ 1 u1).set_ 2 u2).set_ 3 u3).set_ 4 u4).set_ 5 u5)
  unfold set6
  simpa using this
theorem keeps_set6 (w : World) (g : Nat) (u0 u1 u2 u3 u4 u5 : Value) : Keeps (fun k => k = g) w (set6 w g u0 u1 u2 u3 u4 u5) :=
  ((((((Keeps.refl (fun k => k = g) w).setCell (p := ⟨g, 0, none⟩) (.inl rfl) u0).setCell (p := ⟨g, 1, none⟩) (.inl rfl) u1).setCell (p := ⟨g, 2, none⟩) (.inl rfl) u2).setCell (p := ⟨g, 3, none⟩) (.inl rfl) u3).setCell (p := ⟨g, 4, none⟩) (.inl rfl) u4).setCell (p := ⟨g, 5, none⟩) (.inl rfl) u5
/-- A row while a block of another type is written. -/
theorem BOwns.farBlk {w w' : World} {base g : Nat} {v : Value} {l : List UInt8} {t : TypeId} {cs : Array Value} (h : BOwns w base v l) (hb : Blk w g t cs) (ht : 5 ≠ t) (hk : Keeps (fun k => k = g) w w') : BOwns w' base v l :=
  h.keepsB hk (fun k e e' => by
    subst e'
    rcases h.2 with ⟨h2, _⟩ | ⟨g', cap, cur, hv, _, hh, _⟩
    · rw [h2] at e; cases e
    · rw [hv] at e
      have e' : g' = k := Option.some.inj e
      subst e'
      unfold Blk at hb
      rw [hb] at hh
      injection hh with hh
      injection hh with _ hh
      exact ht hh.symm)
set_option maxRecDepth 100000 in
set_option maxHeartbeats 1000000 in
theorem ofVersion_any {w : World} {A : Option Addr} {c : Nat} (v : Vn) (hr : BReads w w.heap.size A v.value) (hl : v.value.length ≤ 140737488355328) :
    Calls Try.prog 85 #[.agg (v.cells A c)] w (GivesE w v.ofVersion) := by
  obtain ⟨key, s, p, d⟩ := v
  unfold Vn.cells
  simp only at hr hl ⊢
  have H0 := Lib.hid hr
  clear hr
  have KT := Lib.hid ((Blk.new w 88 #[.string key, .int .i64 s, .slice A p.length c, .bool d]).alloc (.cells #[.int .i64 0, .int .i64 0, .int .i64 0, .string ⟨#[]⟩, .slice none 0 0, .bool false] 26))
  have KR := Lib.hid (Blk.new (w.alloc (.cells #[.string key, .int .i64 s, .slice A p.length c, .bool d] 88)) 26 #[.int .i64 0, .int .i64 0, .int .i64 0, .string ⟨#[]⟩, .slice none 0 0, .bool false])
  have B0 := Lib.hid (((Below.refl w.heap.size w).alloc (Nat.le_refl _) (.cells #[.string key, .int .i64 s, .slice A p.length c, .bool d] 88)).alloc (by simp) (.cells #[.int .i64 0, .int .i64 0, .int .i64 0, .string ⟨#[]⟩, .slice none 0 0, .bool false] 26))
  go_enter Try.func85, Try.ntmps85
  go_wp2
  obtain ⟨W, hW⟩ : ∃ x, x = (w.alloc (.cells #[.string key, .int .i64 s, .slice A p.length c, .bool d] 88)).alloc (.cells #[.int .i64 0, .int .i64 0, .int .i64 0, .string ⟨#[]⟩, .slice none 0 0, .bool false] 26) := ⟨_, rfl⟩
  obtain ⟨T, hT⟩ : ∃ x, x = w.heap.size := ⟨_, rfl⟩
  obtain ⟨R, hR⟩ : ∃ x, x = w.heap.size + 1 := ⟨_, rfl⟩
  have HT := Lib.hid (show w.heap.size ≤ R from by omega)
  have hTR : ¬ T = R := by omega
  have hRT : ¬ R = T := by omega
  have KR' := Lib.hid (show Blk W R 26 #[.int .i64 0, .int .i64 0, .int .i64 0, .string ⟨#[]⟩, .slice none 0 0, .bool false] from by have := KR.out; rw [hW, hR]; simpa using this)
  rw [← hW, ← hT] at KT
  rw [← hW] at B0
  rw [← hW, ← hR, ← hT]
  clear hW hT hR KR
  have HP := Lib.hid ((H0.out.below B0.out).more B0.out.size)
  have td0 : W.drew.cell? ⟨T, 0, none⟩ = some (.string key) := by have h := KT.out.cell 0; simp at h; exact h
  have td1 : W.drew.cell? ⟨T, 1, none⟩ = some (.int .i64 s) := by have h := KT.out.cell 1; simp at h; exact h
  have td2 : W.drew.cell? ⟨T, 2, none⟩ = some (.slice A p.length c) := by have h := KT.out.cell 2; simp at h; exact h
  have td3 : W.drew.cell? ⟨T, 3, none⟩ = some (.bool d) := by have h := KT.out.cell 3; simp at h; exact h
  go_region_held3 (fun w' => w'.cell? ⟨T, 0, none⟩ = some (.string key) ∧ w'.cell? ⟨T, 1, none⟩ = some (.int .i64 s) ∧ w'.cell? ⟨T, 2, none⟩ = some (.slice A p.length c) ∧ w'.cell? ⟨T, 3, none⟩ = some (.bool d)) (first | (with_reducible exact ⟨td0, td1, td2, td3⟩) | (with_reducible exact ⟨x0, x1, x2, x3⟩) | go_keep) ((go_at_call 109; refine (eown_any (w := W.drew) HP.out hl).mono ?_; rintro e w2 h; obtain ⟨v2, rfl, ho, hb⟩ := h.out; obtain ⟨A2, c2, rfl, _, _⟩ := BOwns.slice ho; have HO := Lib.hid ho; have HB := Lib.hid (show Below W.heap.size W w2 from ⟨hb.os, hb.tape, hb.output, hb.size, hb.block⟩); have KT2 := Lib.hid (KT.out.below' HB.out); have KR2 := Lib.hid (KR'.out.below' HB.out); have x0 := KT2.out.cell 0; have x1 := KT2.out.cell 1; have x2 := KT2.out.cell 2; have x3 := KT2.out.cell 3; have r0 := KR2.out.cell 0; have f0 := KR2.out.frozen 0; have r1 := KR2.out.cell 1; have f1 := KR2.out.frozen 1; have r2 := KR2.out.cell 2; have f2 := KR2.out.frozen 2; have r3 := KR2.out.cell 3; have f3 := KR2.out.frozen 3; have r4 := KR2.out.cell 4; have f4 := KR2.out.frozen 4; have r5 := KR2.out.cell 5; have f5 := KR2.out.frozen 5; simp at x0 x1 x2 x3 r0 r1 r2 r3 r4 r5; clear h ho hb))
  have KR3 := Lib.hid (KR2.out.put6 (.int .i64 5) (.int .i64 s) (.int .i64 0) (.string key) (.slice A2 p.length c2) (.bool d))
  have OW := Lib.hid ((HO.out.farBlk KR2.out (by decide) (keeps_set6 w2 R (.int .i64 5) (.int .i64 s) (.int .i64 0) (.string key) (.slice A2 p.length c2) (.bool d))))
  have SZ := Lib.hid (show w.heap.size ≤ W.drew.heap.size from B0.out.size)
  have BW := Lib.hid (show Below w.heap.size w (set6 w2 R (.int .i64 5) (.int .i64 s) (.int .i64 0) (.string key) (.slice A2 p.length c2) (.bool d)) from (B0.out.trans (HB.out.mono B0.out.size)).trans ((keeps_set6 w2 R (.int .i64 5) (.int .i64 s) (.int .i64 0) (.string key) (.slice A2 p.length c2) (.bool d)).below (B0.out.trans (HB.out.mono B0.out.size)).size (fun i hi => by rw [hi]; exact HT.out)))
  clear x0 x1 x2 x3 r0 f0 r1 f1 r2 f2 r3 f3 r4 f4 r5 f5 td0 td1 td2 td3
  obtain ⟨w3, hw3⟩ : ∃ x, x = ((((((w2.setCell ⟨R, 0, none⟩ (.int .i64 5)).setCell ⟨R, 1, none⟩ (.int .i64 s)).setCell ⟨R, 2, none⟩ (.int .i64 0)).setCell ⟨R, 3, none⟩ (.string key)).setCell ⟨R, 4, none⟩ (.slice A2 p.length c2)).setCell ⟨R, 5, none⟩ (.bool d)) := ⟨_, rfl⟩
  rw [show set6 w2 R (.int .i64 5) (.int .i64 s) (.int .i64 0) (.string key) (.slice A2 p.length c2) (.bool d) = w3 from hw3.symm] at KR3 OW BW
  rw [← hw3]
  clear hw3
  have q0 := KR3.out.cell 0
  have q1 := KR3.out.cell 1
  have q2 := KR3.out.cell 2
  have q3 := KR3.out.cell 3
  have q4 := KR3.out.cell 4
  have q5 := KR3.out.cell 5
  simp at q0 q1 q2 q3 q4 q5
  go_wp2
  exact bodyPost_ret (v := .agg #[.int .i64 5, .int .i64 s, .int .i64 0, .string key, .slice A2 p.length c2, .bool d]) (by simp [results, Try.results85, go_sem, q0, q1, q2, q3, q4, q5]) rfl ⟨A2, c2, rfl, owns_less OW.out SZ.out, BW.out⟩
set_option maxRecDepth 100000 in
set_option maxHeartbeats 1000000 in
theorem version_any {w : World} {A : Option Addr} {c : Nat} (x : En) (hr : BReads w w.heap.size A x.value) (hl : x.value.length ≤ 140737488355328) :
    Calls Try.prog 72 #[.agg (x.cells A c)] w (GivesV w x.version) := by
  obtain ⟨k, s, n, key, p, d⟩ := x
  unfold En.cells
  simp only at hr hl ⊢
  have H0 := Lib.hid hr
  clear hr
  by_cases h1 : k = 1
  · subst h1
    rw [show En.version ⟨1, s, n, key, p, d⟩ = (⟨key, 0, p, false⟩, true) from rfl]
    have KT := Lib.hid ((Blk.new w 26 #[.int .i64 1, .int .i64 s, .int .i64 n, .string key, .slice A p.length c, .bool d]).alloc (.cells #[.string ⟨#[]⟩, .int .i64 0, .slice none 0 0, .bool false] 88))
    have KR := Lib.hid (Blk.new (w.alloc (.cells #[.int .i64 1, .int .i64 s, .int .i64 n, .string key, .slice A p.length c, .bool d] 26)) 88 #[.string ⟨#[]⟩, .int .i64 0, .slice none 0 0, .bool false])
    have B0 := Lib.hid (((Below.refl w.heap.size w).alloc (Nat.le_refl _) (.cells #[.int .i64 1, .int .i64 s, .int .i64 n, .string key, .slice A p.length c, .bool d] 26)).alloc (by simp) (.cells #[.string ⟨#[]⟩, .int .i64 0, .slice none 0 0, .bool false] 88))
    go_enter Try.func72, Try.ntmps72
    go_wp2
    obtain ⟨W, hW⟩ : ∃ x, x = (w.alloc (.cells #[.int .i64 1, .int .i64 s, .int .i64 n, .string key, .slice A p.length c, .bool d] 26)).alloc (.cells #[.string ⟨#[]⟩, .int .i64 0, .slice none 0 0, .bool false] 88) := ⟨_, rfl⟩
    obtain ⟨T, hT⟩ : ∃ x, x = w.heap.size := ⟨_, rfl⟩
    obtain ⟨R, hR⟩ : ∃ x, x = w.heap.size + 1 := ⟨_, rfl⟩
    have HT := Lib.hid (show w.heap.size ≤ R from by omega)
    have hTR : ¬ T = R := by omega
    have hRT : ¬ R = T := by omega
    have KR' := Lib.hid (show Blk W R 88 #[.string ⟨#[]⟩, .int .i64 0, .slice none 0 0, .bool false] from by have := KR.out; rw [hW, hR]; simpa using this)
    rw [← hW, ← hT] at KT
    rw [← hW] at B0
    rw [← hW, ← hR, ← hT]
    clear hW hT hR KR
    have HP := Lib.hid ((H0.out.below B0.out).more B0.out.size)
    have td0 : W.drew.cell? ⟨T, 0, none⟩ = some (.int .i64 1) := by have h := KT.out.cell 0; simp at h; exact h
    have td1 : W.drew.cell? ⟨T, 1, none⟩ = some (.int .i64 s) := by have h := KT.out.cell 1; simp at h; exact h
    have td2 : W.drew.cell? ⟨T, 2, none⟩ = some (.int .i64 n) := by have h := KT.out.cell 2; simp at h; exact h
    have td3 : W.drew.cell? ⟨T, 3, none⟩ = some (.string key) := by have h := KT.out.cell 3; simp at h; exact h
    have td4 : W.drew.cell? ⟨T, 4, none⟩ = some (.slice A p.length c) := by have h := KT.out.cell 4; simp at h; exact h
    have td5 : W.drew.cell? ⟨T, 5, none⟩ = some (.bool d) := by have h := KT.out.cell 5; simp at h; exact h
    go_region_held3 (fun w' => w'.cell? ⟨T, 0, none⟩ = some (.int .i64 1) ∧ w'.cell? ⟨T, 1, none⟩ = some (.int .i64 s) ∧ w'.cell? ⟨T, 2, none⟩ = some (.int .i64 n) ∧ w'.cell? ⟨T, 3, none⟩ = some (.string key) ∧ w'.cell? ⟨T, 4, none⟩ = some (.slice A p.length c) ∧ w'.cell? ⟨T, 5, none⟩ = some (.bool d)) (first | (with_reducible exact ⟨td0, td1, td2, td3, td4, td5⟩) | (with_reducible exact ⟨x0, x1, x2, x3, x4, x5⟩) | go_keep) ((go_at_call 109; refine (eown_any (w := W.drew) HP.out hl).mono ?_; rintro e w2 h; obtain ⟨v2, rfl, ho, hb⟩ := h.out; obtain ⟨A2, c2, rfl, _, _⟩ := BOwns.slice ho; have HO := Lib.hid ho; have HB := Lib.hid (show Below W.heap.size W w2 from ⟨hb.os, hb.tape, hb.output, hb.size, hb.block⟩); have KT2 := Lib.hid (KT.out.below' HB.out); have KR2 := Lib.hid (KR'.out.below' HB.out); have x0 := KT2.out.cell 0; have x1 := KT2.out.cell 1; have x2 := KT2.out.cell 2; have x3 := KT2.out.cell 3; have x4 := KT2.out.cell 4; have x5 := KT2.out.cell 5; have r0 := KR2.out.cell 0; have f0 := KR2.out.frozen 0; have r1 := KR2.out.cell 1; have f1 := KR2.out.frozen 1; have r2 := KR2.out.cell 2; have f2 := KR2.out.frozen 2; have r3 := KR2.out.cell 3; have f3 := KR2.out.frozen 3; simp at x0 x1 x2 x3 x4 x5 r0 r1 r2 r3; clear h ho hb))
    have KR3 := Lib.hid (KR2.out.put4 (.string key) (.int .i64 0) (.slice A2 p.length c2) (.bool false))
    have OW := Lib.hid ((HO.out.farBlk KR2.out (by decide) (keeps_set4 w2 R (.string key) (.int .i64 0) (.slice A2 p.length c2) (.bool false))))
    have SZ := Lib.hid (show w.heap.size ≤ W.drew.heap.size from B0.out.size)
    have BW := Lib.hid (show Below w.heap.size w (set4 w2 R (.string key) (.int .i64 0) (.slice A2 p.length c2) (.bool false)) from (B0.out.trans (HB.out.mono B0.out.size)).trans ((keeps_set4 w2 R (.string key) (.int .i64 0) (.slice A2 p.length c2) (.bool false)).below (B0.out.trans (HB.out.mono B0.out.size)).size (fun i hi => by rw [hi]; exact HT.out)))
    clear x0 x1 x2 x3 x4 x5 r0 f0 r1 f1 r2 f2 r3 f3 td0 td1 td2 td3 td4 td5
    obtain ⟨w3, hw3⟩ : ∃ x, x = ((((w2.setCell ⟨R, 0, none⟩ (.string key)).setCell ⟨R, 1, none⟩ (.int .i64 0)).setCell ⟨R, 2, none⟩ (.slice A2 p.length c2)).setCell ⟨R, 3, none⟩ (.bool false)) := ⟨_, rfl⟩
    rw [show set4 w2 R (.string key) (.int .i64 0) (.slice A2 p.length c2) (.bool false) = w3 from hw3.symm] at KR3 OW BW
    rw [← hw3]
    clear hw3
    have q0 := KR3.out.cell 0
    have q1 := KR3.out.cell 1
    have q2 := KR3.out.cell 2
    have q3 := KR3.out.cell 3
    simp at q0 q1 q2 q3
    go_wp2
    exact bodyPost_ret (v := .tuple #[.agg #[.string key, .int .i64 0, .slice A2 p.length c2, .bool false], .bool true]) (by simp [results, Try.results72, go_sem, q0, q1, q2, q3]) rfl ⟨A2, c2, rfl, owns_less OW.out SZ.out, BW.out⟩
  by_cases h2 : k = 2
  · subst h2
    rw [show En.version ⟨2, s, n, key, p, d⟩ = (⟨key, 0, [], true⟩, true) from rfl]
    go_enter Try.func72, Try.ntmps72
    go_wp2
    exact bodyPost_ret (v := .tuple #[.agg #[.string key, .int .i64 0, .slice none 0 0, .bool true], .bool true]) (by simp [results, Try.results72, go_sem]) rfl ⟨none, 0, rfl, BOwns.nil _ _, ((Below.refl w.heap.size w).alloc (Nat.le_refl _) _).alloc (by simp) _⟩
  by_cases h5 : k = 5
  · subst h5
    rw [show En.version ⟨5, s, n, key, p, d⟩ = (⟨key, s, p, d⟩, true) from rfl]
    have KT := Lib.hid ((Blk.new w 26 #[.int .i64 5, .int .i64 s, .int .i64 n, .string key, .slice A p.length c, .bool d]).alloc (.cells #[.string ⟨#[]⟩, .int .i64 0, .slice none 0 0, .bool false] 88))
    have KR := Lib.hid (Blk.new (w.alloc (.cells #[.int .i64 5, .int .i64 s, .int .i64 n, .string key, .slice A p.length c, .bool d] 26)) 88 #[.string ⟨#[]⟩, .int .i64 0, .slice none 0 0, .bool false])
    have B0 := Lib.hid (((Below.refl w.heap.size w).alloc (Nat.le_refl _) (.cells #[.int .i64 5, .int .i64 s, .int .i64 n, .string key, .slice A p.length c, .bool d] 26)).alloc (by simp) (.cells #[.string ⟨#[]⟩, .int .i64 0, .slice none 0 0, .bool false] 88))
    go_enter Try.func72, Try.ntmps72
    go_wp2
    obtain ⟨W, hW⟩ : ∃ x, x = (w.alloc (.cells #[.int .i64 5, .int .i64 s, .int .i64 n, .string key, .slice A p.length c, .bool d] 26)).alloc (.cells #[.string ⟨#[]⟩, .int .i64 0, .slice none 0 0, .bool false] 88) := ⟨_, rfl⟩
    obtain ⟨T, hT⟩ : ∃ x, x = w.heap.size := ⟨_, rfl⟩
    obtain ⟨R, hR⟩ : ∃ x, x = w.heap.size + 1 := ⟨_, rfl⟩
    have HT := Lib.hid (show w.heap.size ≤ R from by omega)
    have hTR : ¬ T = R := by omega
    have hRT : ¬ R = T := by omega
    have KR' := Lib.hid (show Blk W R 88 #[.string ⟨#[]⟩, .int .i64 0, .slice none 0 0, .bool false] from by have := KR.out; rw [hW, hR]; simpa using this)
    rw [← hW, ← hT] at KT
    rw [← hW] at B0
    rw [← hW, ← hR, ← hT]
    clear hW hT hR KR
    have HP := Lib.hid ((H0.out.below B0.out).more B0.out.size)
    have td0 : W.drew.cell? ⟨T, 0, none⟩ = some (.int .i64 5) := by have h := KT.out.cell 0; simp at h; exact h
    have td1 : W.drew.cell? ⟨T, 1, none⟩ = some (.int .i64 s) := by have h := KT.out.cell 1; simp at h; exact h
    have td2 : W.drew.cell? ⟨T, 2, none⟩ = some (.int .i64 n) := by have h := KT.out.cell 2; simp at h; exact h
    have td3 : W.drew.cell? ⟨T, 3, none⟩ = some (.string key) := by have h := KT.out.cell 3; simp at h; exact h
    have td4 : W.drew.cell? ⟨T, 4, none⟩ = some (.slice A p.length c) := by have h := KT.out.cell 4; simp at h; exact h
    have td5 : W.drew.cell? ⟨T, 5, none⟩ = some (.bool d) := by have h := KT.out.cell 5; simp at h; exact h
    go_region_held3 (fun w' => w'.cell? ⟨T, 0, none⟩ = some (.int .i64 5) ∧ w'.cell? ⟨T, 1, none⟩ = some (.int .i64 s) ∧ w'.cell? ⟨T, 2, none⟩ = some (.int .i64 n) ∧ w'.cell? ⟨T, 3, none⟩ = some (.string key) ∧ w'.cell? ⟨T, 4, none⟩ = some (.slice A p.length c) ∧ w'.cell? ⟨T, 5, none⟩ = some (.bool d)) (first | (with_reducible exact ⟨td0, td1, td2, td3, td4, td5⟩) | (with_reducible exact ⟨x0, x1, x2, x3, x4, x5⟩) | go_keep) ((go_at_call 109; refine (eown_any (w := W.drew) HP.out hl).mono ?_; rintro e w2 h; obtain ⟨v2, rfl, ho, hb⟩ := h.out; obtain ⟨A2, c2, rfl, _, _⟩ := BOwns.slice ho; have HO := Lib.hid ho; have HB := Lib.hid (show Below W.heap.size W w2 from ⟨hb.os, hb.tape, hb.output, hb.size, hb.block⟩); have KT2 := Lib.hid (KT.out.below' HB.out); have KR2 := Lib.hid (KR'.out.below' HB.out); have x0 := KT2.out.cell 0; have x1 := KT2.out.cell 1; have x2 := KT2.out.cell 2; have x3 := KT2.out.cell 3; have x4 := KT2.out.cell 4; have x5 := KT2.out.cell 5; have r0 := KR2.out.cell 0; have f0 := KR2.out.frozen 0; have r1 := KR2.out.cell 1; have f1 := KR2.out.frozen 1; have r2 := KR2.out.cell 2; have f2 := KR2.out.frozen 2; have r3 := KR2.out.cell 3; have f3 := KR2.out.frozen 3; simp at x0 x1 x2 x3 x4 x5 r0 r1 r2 r3; clear h ho hb))
    have KR3 := Lib.hid (KR2.out.put4 (.string key) (.int .i64 s) (.slice A2 p.length c2) (.bool d))
    have OW := Lib.hid ((HO.out.farBlk KR2.out (by decide) (keeps_set4 w2 R (.string key) (.int .i64 s) (.slice A2 p.length c2) (.bool d))))
    have SZ := Lib.hid (show w.heap.size ≤ W.drew.heap.size from B0.out.size)
    have BW := Lib.hid (show Below w.heap.size w (set4 w2 R (.string key) (.int .i64 s) (.slice A2 p.length c2) (.bool d)) from (B0.out.trans (HB.out.mono B0.out.size)).trans ((keeps_set4 w2 R (.string key) (.int .i64 s) (.slice A2 p.length c2) (.bool d)).below (B0.out.trans (HB.out.mono B0.out.size)).size (fun i hi => by rw [hi]; exact HT.out)))
    clear x0 x1 x2 x3 x4 x5 r0 f0 r1 f1 r2 f2 r3 f3 td0 td1 td2 td3 td4 td5
    obtain ⟨w3, hw3⟩ : ∃ x, x = ((((w2.setCell ⟨R, 0, none⟩ (.string key)).setCell ⟨R, 1, none⟩ (.int .i64 s)).setCell ⟨R, 2, none⟩ (.slice A2 p.length c2)).setCell ⟨R, 3, none⟩ (.bool d)) := ⟨_, rfl⟩
    rw [show set4 w2 R (.string key) (.int .i64 s) (.slice A2 p.length c2) (.bool d) = w3 from hw3.symm] at KR3 OW BW
    rw [← hw3]
    clear hw3
    have q0 := KR3.out.cell 0
    have q1 := KR3.out.cell 1
    have q2 := KR3.out.cell 2
    have q3 := KR3.out.cell 3
    simp at q0 q1 q2 q3
    go_wp2
    exact bodyPost_ret (v := .tuple #[.agg #[.string key, .int .i64 s, .slice A2 p.length c2, .bool d], .bool true]) (by simp [results, Try.results72, go_sem, q0, q1, q2, q3]) rfl ⟨A2, c2, rfl, owns_less OW.out SZ.out, BW.out⟩
  rw [show En.version ⟨k, s, n, key, p, d⟩ = (⟨⟨#[]⟩, 0, [], false⟩, false) from by unfold En.version; rw [if_neg h1, if_neg h2, if_neg h5]]
  have k1 : (k == 1) = false := by rw [beq_eq_false_iff_ne]; exact h1
  have k2 : (k == 2) = false := by rw [beq_eq_false_iff_ne]; exact h2
  have k5 : (k == 5) = false := by rw [beq_eq_false_iff_ne]; exact h5
  clear h1 h2 h5
  go_enter Try.func72, Try.ntmps72
  go_wp2
  exact bodyPost_ret (v := .tuple #[.agg #[.string ⟨#[]⟩, .int .i64 0, .slice none 0 0, .bool false], .bool false]) (by simp [results, Try.results72, go_sem]) rfl ⟨none, 0, rfl, BOwns.nil _ _, ((Below.refl w.heap.size w).alloc (Nat.le_refl _) _).alloc (by simp) _⟩
end Go.Proofs.Ytmnpchncmbnddaa
/- A region of two calls that answer entries, each stored in a box of its own: in whatever order. -/
namespace Go.Proofs.Ytmnpchncmbnddaa
open Go.RowKit

def zeroE : Array Value := #[.int .i64 0, .int .i64 0, .int .i64 0, .string ⟨#[]⟩, .slice none 0 0, .bool false]
/-- A call's answer: nothing yet, or the entry, its bytes a row. -/
def Ans (b : Bool) (x : En) (u : Value) (i : Item) : Prop := if b then ∃ A c, u = .agg (x.cells A c) ∧ i = Item.row (.slice A x.value.length c) x.value else i = Item.none
/-- A box: none yet, an empty one, the answer's. -/
def Box (b s : Bool) (x : En) (u ud : Value) (i : Item) : Prop :=
  if s then ∃ A c g, u = .agg (x.cells A c) ∧ ud = .pointer (some ⟨g, 0, none⟩) ∧ i = Item.blk g 26 (x.cells A c)
  else if b then ∃ g, ud = .pointer (some ⟨g, 0, none⟩) ∧ i = Item.blk g 26 zeroE else i = Item.none
structure TwoInv (a0 : Act) (w0 : World) (M : List Item) (V : Value) (x y : En) (s1 s2 s3 s4 d1 d2 : Nat) (L : Nat → Bool) (a : Act) (w : World) : Prop where
  fr : Fr [s1, s2, s3, s4, d1, d2] a0 a
  v1 : L 0 = true → a.tmps.getD s1 undef = V
  v3 : L 2 = true → a.tmps.getD s3 undef = V
  dn : (L 6 = true → L 1 = true ∧ L 4 = true) ∧ (L 7 = true → L 3 = true ∧ L 5 = true)
  it : ∃ i1 i2 j1 j2, Turn (Item.all []) w0 (Item.all (j1 :: j2 :: i1 :: i2 :: M)) w ∧ Ans (L 1) x (a.tmps.getD s2 undef) i1 ∧ Ans (L 3) y (a.tmps.getD s4 undef) i2 ∧
    Box (L 4) (L 6) x (a.tmps.getD s2 undef) (a.tmps.getD d1 undef) j1 ∧ Box (L 5) (L 7) y (a.tmps.getD s4 undef) (a.tmps.getD d2 undef) j2
theorem slot_ne {a : Act} {d k : Nat} {v : Value} (h : d < a.tmps.size) (hk : k ≠ d) : (a.put (some d) v).tmps.getD k undef = a.tmps.getD k undef := by rw [slot_get h, if_neg hk]
theorem slot_eq {a : Act} {d : Nat} {v : Value} (h : d < a.tmps.size) : (a.put (some d) v).tmps.getD d undef = v := by rw [slot_get h, if_pos rfl]
end Go.Proofs.Ytmnpchncmbnddaa
