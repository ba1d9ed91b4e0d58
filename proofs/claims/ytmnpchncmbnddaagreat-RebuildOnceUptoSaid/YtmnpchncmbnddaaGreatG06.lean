/- Contracts and plain laws that this claim leans on, laid together: Ent1. -/
import Derived.Test.YtmnpchncmbnddaaGreatG01
import Derived.Test.YtmnpchncmbnddaaGreatG02
import Derived.Laws.Strings
set_option linter.all false
set_option linter.unusedVariables false
set_option linter.unusedSimpArgs false
set_option linter.unnecessarySimpa false
/- Entries: how they lie in memory; fields and Check of package entry. -/
namespace Go.Proofs.YtmnpchncmbnddaaGreat
open Go.RowKit

/-- An entry. -/
structure En where
  kind : Int
  stamp : Int
  count : Int
  key : ByteArray
  value : List UInt8
  dead : Bool
def En.cells (e : En) (A : Option Addr) (c : Nat) : Array Value := #[.int .i64 e.kind, .int .i64 e.stamp, .int .i64 e.count, .string e.key, .slice A e.value.length c, .bool e.dead]
/-- An entry may be. -/
def En.may (e : En) : Prop :=
  if e.kind = 1 then 1 ≤ e.key.size ∧ e.key.size ≤ 255 ∧ e.stamp = 0 ∧ e.count = 0 ∧ e.dead = false ∧ e.value.length ≤ 4096
  else if e.kind = 2 then 1 ≤ e.key.size ∧ e.key.size ≤ 255 ∧ e.stamp = 0 ∧ e.count = 0 ∧ e.dead = false ∧ e.value.length = 0
  else if e.kind = 3 ∨ e.kind = 4 ∨ e.kind = 6 then e.key.size = 0 ∧ 0 ≤ e.stamp ∧ e.stamp ≤ 4611686018427387904 ∧ 0 ≤ e.count ∧ e.count ≤ 2147483647 ∧ e.dead = false ∧ e.value.length = 0
  else if e.kind = 5 then 1 ≤ e.key.size ∧ e.key.size ≤ 255 ∧ 0 ≤ e.stamp ∧ e.stamp ≤ 4611686018427387904 ∧ e.count = 0 ∧ e.value.length ≤ 4096 ∧ (e.dead = true → e.value.length = 0)
  else False
open Classical in
noncomputable def En.chk (e : En) : Int := if e.may then 0 else 100
theorem En.chk_ok {e : En} (h : e.may) : e.chk = 0 := if_pos h
theorem En.chk_no {e : En} (h : ¬ e.may) : e.chk = 100 := if_neg h

/-- The fields that count of a kind, as bits. -/
def fieldsF (k : Int) : Int := if k = 1 then 17 else if k = 2 then 1 else if k = 3 ∨ k = 4 ∨ k = 6 then 6 else if k = 5 then 27 else 0
theorem fields_any {w : World} (k : Int) : Calls Tryz.prog 149 #[.int .i64 k] w fun e w' => e = .returned (.int .i64 (fieldsF k)) ∧ w = w' := by
  by_cases h1 : k = 1
  · subst h1
    go_enter Tryz.func149, Tryz.ntmps149
    go_wp2
    go_ret
    exact ⟨rfl, rfl⟩
  by_cases h2 : k = 2
  · subst h2
    go_enter Tryz.func149, Tryz.ntmps149
    go_wp2
    go_ret
    exact ⟨rfl, rfl⟩
  by_cases h3 : k = 3
  · subst h3
    go_enter Tryz.func149, Tryz.ntmps149
    go_wp2
    go_ret
    exact ⟨rfl, rfl⟩
  by_cases h4 : k = 4
  · subst h4
    go_enter Tryz.func149, Tryz.ntmps149
    go_wp2
    go_ret
    exact ⟨rfl, rfl⟩
  by_cases h6 : k = 6
  · subst h6
    go_enter Tryz.func149, Tryz.ntmps149
    go_wp2
    go_ret
    exact ⟨rfl, rfl⟩
  by_cases h5 : k = 5
  · subst h5
    go_enter Tryz.func149, Tryz.ntmps149
    go_wp2
    go_ret
    exact ⟨rfl, rfl⟩
  have HE := Lib.hid (show fieldsF k = 0 from by unfold fieldsF; rw [if_neg h1, if_neg h2, if_neg (by omega), if_neg h5])
  have k1 : (k == 1) = false := by rw [beq_eq_false_iff_ne]; exact h1
  have k2 : (k == 2) = false := by rw [beq_eq_false_iff_ne]; exact h2
  have k3 : (k == 3) = false := by rw [beq_eq_false_iff_ne]; exact h3
  have k4 : (k == 4) = false := by rw [beq_eq_false_iff_ne]; exact h4
  have k5 : (k == 5) = false := by rw [beq_eq_false_iff_ne]; exact h5
  have k6 : (k == 6) = false := by rw [beq_eq_false_iff_ne]; exact h6
  clear h1 h2 h3 h4 h5 h6
  go_enter Tryz.func149, Tryz.ntmps149
  go_wp2
  go_ret
  exact ⟨by rw [HE.out]; rfl, rfl⟩
theorem may_1 {s n : Int} {key : ByteArray} {v : List UInt8} {d : Bool} : En.may ⟨1, s, n, key, v, d⟩ = (1 ≤ key.size ∧ key.size ≤ 255 ∧ s = 0 ∧ n = 0 ∧ d = false ∧ v.length ≤ 4096) := if_pos rfl
theorem may_2 {s n : Int} {key : ByteArray} {v : List UInt8} {d : Bool} : En.may ⟨2, s, n, key, v, d⟩ = (1 ≤ key.size ∧ key.size ≤ 255 ∧ s = 0 ∧ n = 0 ∧ d = false ∧ v.length = 0) := (if_neg (by show ¬ ((2 : Int) = 1); decide)).trans (if_pos rfl)
theorem may_m {k s n : Int} {key : ByteArray} {v : List UInt8} {d : Bool} (hk : k = 3 ∨ k = 4 ∨ k = 6) : En.may ⟨k, s, n, key, v, d⟩ = (key.size = 0 ∧ 0 ≤ s ∧ s ≤ 4611686018427387904 ∧ 0 ≤ n ∧ n ≤ 2147483647 ∧ d = false ∧ v.length = 0) :=
  (if_neg (by show ¬ k = 1; omega)).trans ((if_neg (by show ¬ k = 2; omega)).trans (if_pos hk))
theorem may_5 {s n : Int} {key : ByteArray} {v : List UInt8} {d : Bool} : En.may ⟨5, s, n, key, v, d⟩ = (1 ≤ key.size ∧ key.size ≤ 255 ∧ 0 ≤ s ∧ s ≤ 4611686018427387904 ∧ n = 0 ∧ v.length ≤ 4096 ∧ (d = true → v.length = 0)) :=
  (if_neg (by show ¬ ((5 : Int) = 1); decide)).trans ((if_neg (by show ¬ ((5 : Int) = 2); decide)).trans ((if_neg (by show ¬ ((5 : Int) = 3 ∨ (5 : Int) = 4 ∨ (5 : Int) = 6); decide)).trans (if_pos rfl)))
theorem may_x {k s n : Int} {key : ByteArray} {v : List UInt8} {d : Bool} (h : ¬ (1 ≤ k ∧ k ≤ 6)) : ¬ En.may ⟨k, s, n, key, v, d⟩ := by
  unfold En.may
  simp only
  rw [if_neg (by omega), if_neg (by omega), if_neg (by omega), if_neg (by omega)]
  exact id
theorem str_empty {s : ByteArray} (h : s.size = 0) : s = ⟨#[]⟩ := by
  cases s with | mk d => rw [Array.eq_empty_of_size_eq_zero h]
theorem str_ne {s : ByteArray} (h : ¬ s.size = 0) : s.toList.isEmpty = false ∧ (s.toList == []) = false ∧ (s.toList != []) = true := by
  have h2 : s.toList ≠ [] := by
    rw [ByteArray.toList_eq]
    intro e
    have := congrArg List.length e
    rw [Array.length_toList] at this
    exact h this
  cases hl : s.toList with
  | nil => exact absurd hl h2
  | cons a r => exact ⟨rfl, rfl, rfl⟩
theorem and_17_1 : bits .and .i64 17 1 = 1 := by decide
theorem and_17_2 : bits .and .i64 17 2 = 0 := by decide
theorem and_17_4 : bits .and .i64 17 4 = 0 := by decide
theorem and_17_8 : bits .and .i64 17 8 = 0 := by decide
theorem and_17_16 : bits .and .i64 17 16 = 16 := by decide
theorem and_1_1 : bits .and .i64 1 1 = 1 := by decide
theorem and_1_2 : bits .and .i64 1 2 = 0 := by decide
theorem and_1_4 : bits .and .i64 1 4 = 0 := by decide
theorem and_1_8 : bits .and .i64 1 8 = 0 := by decide
theorem and_1_16 : bits .and .i64 1 16 = 0 := by decide
theorem and_6_1 : bits .and .i64 6 1 = 0 := by decide
theorem and_6_2 : bits .and .i64 6 2 = 2 := by decide
theorem and_6_4 : bits .and .i64 6 4 = 4 := by decide
theorem and_6_8 : bits .and .i64 6 8 = 0 := by decide
theorem and_6_16 : bits .and .i64 6 16 = 0 := by decide
theorem and_27_1 : bits .and .i64 27 1 = 1 := by decide
theorem and_27_2 : bits .and .i64 27 2 = 2 := by decide
theorem and_27_4 : bits .and .i64 27 4 = 0 := by decide
theorem and_27_8 : bits .and .i64 27 8 = 8 := by decide
theorem and_27_16 : bits .and .i64 27 16 = 16 := by decide
set_option maxRecDepth 100000 in
set_option maxHeartbeats 3200000 in
theorem check_1 {w : World} {A : Option Addr} {c : Nat} (s n : Int) (key : ByteArray) (v : List UInt8) (d : Bool) (hks : key.size ≤ 140737488355328) (hvl : v.length ≤ 140737488355328) :
    Calls Tryz.prog 127 #[.agg (En.cells ⟨1, s, n, key, v, d⟩ A c)] w fun e w' => e = .returned (.int .i64 (En.chk ⟨1, s, n, key, v, d⟩)) ∧ Below w.heap.size w w' := by
  unfold En.cells
  simp only
  by_cases hc : 1 ≤ key.size
  · have hK1 : (1 : Int) ≤ key.size := by omega
    clear hc
    by_cases hc : key.size ≤ 255
    · have hK2 : (key.size : Int) ≤ 255 := by omega
      clear hc
      by_cases hc : s = 0
      · subst hc
        by_cases hc : n = 0
        · subst hc
          by_cases hc : d = false
          · subst hc
            by_cases hc : v.length ≤ 4096
            · have hV4 : (v.length : Int) ≤ 4096 := by omega
              clear hc
              have HE := Lib.hid (show En.chk ⟨1, 0, 0, key, v, false⟩ = 0 from En.chk_ok (by rw [may_1]; exact ⟨by omega, by omega, rfl, rfl, rfl, by omega⟩))
              have b1 := and_17_1
              have b2 := and_17_2
              have b4 := and_17_4
              have b8 := and_17_8
              have b16 := and_17_16
              go_enter Tryz.func127, Tryz.ntmps127
              go_wp2_with fail
              refine (fields_any 1).mono ?_
              rintro e w1 ⟨rfl, rfl⟩
              rw [show fieldsF 1 = 17 from rfl]
              go_wp2
              all_goals go_ret
              all_goals exact ⟨by rw [HE.out]; rfl, (Below.refl _ _).alloc (Nat.le_refl _) _⟩
            · have hV4 : (4096 : Int) < v.length := by omega
              have HE := Lib.hid (show En.chk ⟨1, 0, 0, key, v, false⟩ = 100 from En.chk_no (by rw [may_1]; rintro ⟨q0, q1, q2, q3, q4, q5⟩; omega))
              clear hc
              have b1 := and_17_1
              have b2 := and_17_2
              have b4 := and_17_4
              have b8 := and_17_8
              have b16 := and_17_16
              go_enter Tryz.func127, Tryz.ntmps127
              go_wp2_with fail
              refine (fields_any 1).mono ?_
              rintro e w1 ⟨rfl, rfl⟩
              rw [show fieldsF 1 = 17 from rfl]
              go_wp2
              all_goals go_ret
              all_goals exact ⟨by rw [HE.out]; rfl, (Below.refl _ _).alloc (Nat.le_refl _) _⟩
          · obtain rfl : d = true := by cases d <;> simp_all
            have HE := Lib.hid (show En.chk ⟨1, 0, 0, key, v, true⟩ = 100 from En.chk_no (by rw [may_1]; rintro ⟨q0, q1, q2, q3, q4, q5⟩; cases q4))
            have b1 := and_17_1
            have b2 := and_17_2
            have b4 := and_17_4
            have b8 := and_17_8
            have b16 := and_17_16
            go_enter Tryz.func127, Tryz.ntmps127
            go_wp2_with fail
            refine (fields_any 1).mono ?_
            rintro e w1 ⟨rfl, rfl⟩
            rw [show fieldsF 1 = 17 from rfl]
            go_wp2
            all_goals go_ret
            all_goals exact ⟨by rw [HE.out]; rfl, (Below.refl _ _).alloc (Nat.le_refl _) _⟩
        · have hN0 : (n != 0) = true := by rw [bne_iff_ne]; exact hc
          have hN0b : (n == 0) = false := by rw [beq_eq_false_iff_ne]; exact hc
          have HE := Lib.hid (show En.chk ⟨1, 0, n, key, v, d⟩ = 100 from En.chk_no (by rw [may_1]; rintro ⟨q0, q1, q2, q3, q4, q5⟩; exact hc q3))
          clear hc
          have b1 := and_17_1
          have b2 := and_17_2
          have b4 := and_17_4
          have b8 := and_17_8
          have b16 := and_17_16
          go_enter Tryz.func127, Tryz.ntmps127
          go_wp2_with fail
          refine (fields_any 1).mono ?_
          rintro e w1 ⟨rfl, rfl⟩
          rw [show fieldsF 1 = 17 from rfl]
          go_wp2
          all_goals go_ret
          all_goals exact ⟨by rw [HE.out]; rfl, (Below.refl _ _).alloc (Nat.le_refl _) _⟩
      · have hS0 : (s != 0) = true := by rw [bne_iff_ne]; exact hc
        have hS0b : (s == 0) = false := by rw [beq_eq_false_iff_ne]; exact hc
        have HE := Lib.hid (show En.chk ⟨1, s, n, key, v, d⟩ = 100 from En.chk_no (by rw [may_1]; rintro ⟨q0, q1, q2, q3, q4, q5⟩; exact hc q2))
        clear hc
        have b1 := and_17_1
        have b2 := and_17_2
        have b4 := and_17_4
        have b8 := and_17_8
        have b16 := and_17_16
        go_enter Tryz.func127, Tryz.ntmps127
        go_wp2_with fail
        refine (fields_any 1).mono ?_
        rintro e w1 ⟨rfl, rfl⟩
        rw [show fieldsF 1 = 17 from rfl]
        go_wp2
        all_goals go_ret
        all_goals exact ⟨by rw [HE.out]; rfl, (Below.refl _ _).alloc (Nat.le_refl _) _⟩
    · have hK2 : (255 : Int) < key.size := by omega
      have hK2b : decide ((key.size : Int) ≤ 255) = false := decide_eq_false (by omega)
      have HE := Lib.hid (show En.chk ⟨1, s, n, key, v, d⟩ = 100 from En.chk_no (by rw [may_1]; rintro ⟨q0, q1, q2, q3, q4, q5⟩; omega))
      clear hc
      have b1 := and_17_1
      have b2 := and_17_2
      have b4 := and_17_4
      have b8 := and_17_8
      have b16 := and_17_16
      go_enter Tryz.func127, Tryz.ntmps127
      go_wp2_with fail
      refine (fields_any 1).mono ?_
      rintro e w1 ⟨rfl, rfl⟩
      rw [show fieldsF 1 = 17 from rfl]
      go_wp2
      all_goals go_ret
      all_goals exact ⟨by rw [HE.out]; rfl, (Below.refl _ _).alloc (Nat.le_refl _) _⟩
  · have hK1 : (key.size : Int) < 1 := by omega
    have HE := Lib.hid (show En.chk ⟨1, s, n, key, v, d⟩ = 100 from En.chk_no (by rw [may_1]; rintro ⟨q0, q1, q2, q3, q4, q5⟩; omega))
    clear hc
    have b1 := and_17_1
    have b2 := and_17_2
    have b4 := and_17_4
    have b8 := and_17_8
    have b16 := and_17_16
    go_enter Tryz.func127, Tryz.ntmps127
    go_wp2_with fail
    refine (fields_any 1).mono ?_
    rintro e w1 ⟨rfl, rfl⟩
    rw [show fieldsF 1 = 17 from rfl]
    go_wp2
    all_goals go_ret
    all_goals exact ⟨by rw [HE.out]; rfl, (Below.refl _ _).alloc (Nat.le_refl _) _⟩
set_option maxRecDepth 100000 in
set_option maxHeartbeats 3200000 in
theorem check_2 {w : World} {A : Option Addr} {c : Nat} (s n : Int) (key : ByteArray) (v : List UInt8) (d : Bool) (hks : key.size ≤ 140737488355328) (hvl : v.length ≤ 140737488355328) :
    Calls Tryz.prog 127 #[.agg (En.cells ⟨2, s, n, key, v, d⟩ A c)] w fun e w' => e = .returned (.int .i64 (En.chk ⟨2, s, n, key, v, d⟩)) ∧ Below w.heap.size w w' := by
  unfold En.cells
  simp only
  by_cases hc : 1 ≤ key.size
  · have hK1 : (1 : Int) ≤ key.size := by omega
    clear hc
    by_cases hc : key.size ≤ 255
    · have hK2 : (key.size : Int) ≤ 255 := by omega
      clear hc
      by_cases hc : s = 0
      · subst hc
        by_cases hc : n = 0
        · subst hc
          by_cases hc : d = false
          · subst hc
            by_cases hc : v.length = 0
            · obtain rfl := List.eq_nil_of_length_eq_zero hc
              have HE := Lib.hid (show En.chk ⟨2, 0, 0, key, [], false⟩ = 0 from En.chk_ok (by rw [may_2]; exact ⟨by omega, by omega, rfl, rfl, rfl, rfl⟩))
              have b1 := and_1_1
              have b2 := and_1_2
              have b4 := and_1_4
              have b8 := and_1_8
              have b16 := and_1_16
              go_enter Tryz.func127, Tryz.ntmps127
              go_wp2_with fail
              refine (fields_any 2).mono ?_
              rintro e w1 ⟨rfl, rfl⟩
              rw [show fieldsF 2 = 1 from rfl]
              go_wp2
              all_goals go_ret
              all_goals exact ⟨by rw [HE.out]; rfl, (Below.refl _ _).alloc (Nat.le_refl _) _⟩
            · have hV0 : (0 : Int) < v.length := by omega
              have HE := Lib.hid (show En.chk ⟨2, 0, 0, key, v, false⟩ = 100 from En.chk_no (by rw [may_2]; rintro ⟨q0, q1, q2, q3, q4, q5⟩; omega))
              clear hc
              have b1 := and_1_1
              have b2 := and_1_2
              have b4 := and_1_4
              have b8 := and_1_8
              have b16 := and_1_16
              go_enter Tryz.func127, Tryz.ntmps127
              go_wp2_with fail
              refine (fields_any 2).mono ?_
              rintro e w1 ⟨rfl, rfl⟩
              rw [show fieldsF 2 = 1 from rfl]
              go_wp2
              all_goals go_ret
              all_goals exact ⟨by rw [HE.out]; rfl, (Below.refl _ _).alloc (Nat.le_refl _) _⟩
          · obtain rfl : d = true := by cases d <;> simp_all
            have HE := Lib.hid (show En.chk ⟨2, 0, 0, key, v, true⟩ = 100 from En.chk_no (by rw [may_2]; rintro ⟨q0, q1, q2, q3, q4, q5⟩; cases q4))
            have b1 := and_1_1
            have b2 := and_1_2
            have b4 := and_1_4
            have b8 := and_1_8
            have b16 := and_1_16
            go_enter Tryz.func127, Tryz.ntmps127
            go_wp2_with fail
            refine (fields_any 2).mono ?_
            rintro e w1 ⟨rfl, rfl⟩
            rw [show fieldsF 2 = 1 from rfl]
            go_wp2
            all_goals go_ret
            all_goals exact ⟨by rw [HE.out]; rfl, (Below.refl _ _).alloc (Nat.le_refl _) _⟩
        · have hN0 : (n != 0) = true := by rw [bne_iff_ne]; exact hc
          have hN0b : (n == 0) = false := by rw [beq_eq_false_iff_ne]; exact hc
          have HE := Lib.hid (show En.chk ⟨2, 0, n, key, v, d⟩ = 100 from En.chk_no (by rw [may_2]; rintro ⟨q0, q1, q2, q3, q4, q5⟩; exact hc q3))
          clear hc
          have b1 := and_1_1
          have b2 := and_1_2
          have b4 := and_1_4
          have b8 := and_1_8
          have b16 := and_1_16
          go_enter Tryz.func127, Tryz.ntmps127
          go_wp2_with fail
          refine (fields_any 2).mono ?_
          rintro e w1 ⟨rfl, rfl⟩
          rw [show fieldsF 2 = 1 from rfl]
          go_wp2
          all_goals go_ret
          all_goals exact ⟨by rw [HE.out]; rfl, (Below.refl _ _).alloc (Nat.le_refl _) _⟩
      · have hS0 : (s != 0) = true := by rw [bne_iff_ne]; exact hc
        have hS0b : (s == 0) = false := by rw [beq_eq_false_iff_ne]; exact hc
        have HE := Lib.hid (show En.chk ⟨2, s, n, key, v, d⟩ = 100 from En.chk_no (by rw [may_2]; rintro ⟨q0, q1, q2, q3, q4, q5⟩; exact hc q2))
        clear hc
        have b1 := and_1_1
        have b2 := and_1_2
        have b4 := and_1_4
        have b8 := and_1_8
        have b16 := and_1_16
        go_enter Tryz.func127, Tryz.ntmps127
        go_wp2_with fail
        refine (fields_any 2).mono ?_
        rintro e w1 ⟨rfl, rfl⟩
        rw [show fieldsF 2 = 1 from rfl]
        go_wp2
        all_goals go_ret
        all_goals exact ⟨by rw [HE.out]; rfl, (Below.refl _ _).alloc (Nat.le_refl _) _⟩
    · have hK2 : (255 : Int) < key.size := by omega
      have hK2b : decide ((key.size : Int) ≤ 255) = false := decide_eq_false (by omega)
      have HE := Lib.hid (show En.chk ⟨2, s, n, key, v, d⟩ = 100 from En.chk_no (by rw [may_2]; rintro ⟨q0, q1, q2, q3, q4, q5⟩; omega))
      clear hc
      have b1 := and_1_1
      have b2 := and_1_2
      have b4 := and_1_4
      have b8 := and_1_8
      have b16 := and_1_16
      go_enter Tryz.func127, Tryz.ntmps127
      go_wp2_with fail
      refine (fields_any 2).mono ?_
      rintro e w1 ⟨rfl, rfl⟩
      rw [show fieldsF 2 = 1 from rfl]
      go_wp2
      all_goals go_ret
      all_goals exact ⟨by rw [HE.out]; rfl, (Below.refl _ _).alloc (Nat.le_refl _) _⟩
  · have hK1 : (key.size : Int) < 1 := by omega
    have HE := Lib.hid (show En.chk ⟨2, s, n, key, v, d⟩ = 100 from En.chk_no (by rw [may_2]; rintro ⟨q0, q1, q2, q3, q4, q5⟩; omega))
    clear hc
    have b1 := and_1_1
    have b2 := and_1_2
    have b4 := and_1_4
    have b8 := and_1_8
    have b16 := and_1_16
    go_enter Tryz.func127, Tryz.ntmps127
    go_wp2_with fail
    refine (fields_any 2).mono ?_
    rintro e w1 ⟨rfl, rfl⟩
    rw [show fieldsF 2 = 1 from rfl]
    go_wp2
    all_goals go_ret
    all_goals exact ⟨by rw [HE.out]; rfl, (Below.refl _ _).alloc (Nat.le_refl _) _⟩
set_option maxRecDepth 100000 in
set_option maxHeartbeats 3200000 in
theorem check_m {w : World} {A : Option Addr} {c : Nat} (k : Int) (hm : k = 3 ∨ k = 4 ∨ k = 6) (s n : Int) (key : ByteArray) (v : List UInt8) (d : Bool) (hks : key.size ≤ 140737488355328) (hvl : v.length ≤ 140737488355328) :
    Calls Tryz.prog 127 #[.agg (En.cells ⟨k, s, n, key, v, d⟩ A c)] w fun e w' => e = .returned (.int .i64 (En.chk ⟨k, s, n, key, v, d⟩)) ∧ Below w.heap.size w w' := by
  unfold En.cells
  simp only
  have HF := Lib.hid (show fieldsF k = 6 from by unfold fieldsF; rw [if_neg (by omega), if_neg (by omega), if_pos hm])
  by_cases hc : key.size = 0
  · obtain rfl := str_empty hc
    by_cases hc : 0 ≤ s
    · have hS1 : 0 ≤ s := hc
      clear hc
      by_cases hc : s ≤ 4611686018427387904
      · have hS2 : s ≤ 4611686018427387904 := hc
        clear hc
        by_cases hc : 0 ≤ n
        · have hN1 : 0 ≤ n := hc
          clear hc
          by_cases hc : n ≤ 2147483647
          · have hN2 : n ≤ 2147483647 := hc
            clear hc
            by_cases hc : d = false
            · subst hc
              by_cases hc : v.length = 0
              · obtain rfl := List.eq_nil_of_length_eq_zero hc
                have HE := Lib.hid (show En.chk ⟨k, s, n, ⟨#[]⟩, [], false⟩ = 0 from En.chk_ok (by rw [may_m hm]; exact ⟨rfl, by omega, by omega, by omega, by omega, rfl, rfl⟩))
                have b1 := and_6_1
                have b2 := and_6_2
                have b4 := and_6_4
                have b8 := and_6_8
                have b16 := and_6_16
                go_enter Tryz.func127, Tryz.ntmps127
                go_wp2_with fail
                refine (fields_any k).mono ?_
                rintro e w1 ⟨rfl, rfl⟩
                rw [HF.out]
                go_wp2
                all_goals go_ret
                all_goals exact ⟨by rw [HE.out]; rfl, (Below.refl _ _).alloc (Nat.le_refl _) _⟩
              · have hV0 : (0 : Int) < v.length := by omega
                have HE := Lib.hid (show En.chk ⟨k, s, n, ⟨#[]⟩, v, false⟩ = 100 from En.chk_no (by rw [may_m hm]; rintro ⟨q0, q1, q2, q3, q4, q5, q6⟩; omega))
                clear hc
                have b1 := and_6_1
                have b2 := and_6_2
                have b4 := and_6_4
                have b8 := and_6_8
                have b16 := and_6_16
                go_enter Tryz.func127, Tryz.ntmps127
                go_wp2_with fail
                refine (fields_any k).mono ?_
                rintro e w1 ⟨rfl, rfl⟩
                rw [HF.out]
                go_wp2
                all_goals go_ret
                all_goals exact ⟨by rw [HE.out]; rfl, (Below.refl _ _).alloc (Nat.le_refl _) _⟩
            · obtain rfl : d = true := by cases d <;> simp_all
              have HE := Lib.hid (show En.chk ⟨k, s, n, ⟨#[]⟩, v, true⟩ = 100 from En.chk_no (by rw [may_m hm]; rintro ⟨q0, q1, q2, q3, q4, q5, q6⟩; cases q5))
              have b1 := and_6_1
              have b2 := and_6_2
              have b4 := and_6_4
              have b8 := and_6_8
              have b16 := and_6_16
              go_enter Tryz.func127, Tryz.ntmps127
              go_wp2_with fail
              refine (fields_any k).mono ?_
              rintro e w1 ⟨rfl, rfl⟩
              rw [HF.out]
              go_wp2
              all_goals go_ret
              all_goals exact ⟨by rw [HE.out]; rfl, (Below.refl _ _).alloc (Nat.le_refl _) _⟩
          · have hN2 : 2147483647 < n := by omega
            have HE := Lib.hid (show En.chk ⟨k, s, n, ⟨#[]⟩, v, d⟩ = 100 from En.chk_no (by rw [may_m hm]; rintro ⟨q0, q1, q2, q3, q4, q5, q6⟩; omega))
            clear hc
            have b1 := and_6_1
            have b2 := and_6_2
            have b4 := and_6_4
            have b8 := and_6_8
            have b16 := and_6_16
            go_enter Tryz.func127, Tryz.ntmps127
            go_wp2_with fail
            refine (fields_any k).mono ?_
            rintro e w1 ⟨rfl, rfl⟩
            rw [HF.out]
            go_wp2
            all_goals go_ret
            all_goals exact ⟨by rw [HE.out]; rfl, (Below.refl _ _).alloc (Nat.le_refl _) _⟩
        · have hN1 : n < 0 := by omega
          have HE := Lib.hid (show En.chk ⟨k, s, n, ⟨#[]⟩, v, d⟩ = 100 from En.chk_no (by rw [may_m hm]; rintro ⟨q0, q1, q2, q3, q4, q5, q6⟩; omega))
          clear hc
          have b1 := and_6_1
          have b2 := and_6_2
          have b4 := and_6_4
          have b8 := and_6_8
          have b16 := and_6_16
          go_enter Tryz.func127, Tryz.ntmps127
          go_wp2_with fail
          refine (fields_any k).mono ?_
          rintro e w1 ⟨rfl, rfl⟩
          rw [HF.out]
          go_wp2
          all_goals go_ret
          all_goals exact ⟨by rw [HE.out]; rfl, (Below.refl _ _).alloc (Nat.le_refl _) _⟩
      · have hS2 : 4611686018427387904 < s := by omega
        have HE := Lib.hid (show En.chk ⟨k, s, n, ⟨#[]⟩, v, d⟩ = 100 from En.chk_no (by rw [may_m hm]; rintro ⟨q0, q1, q2, q3, q4, q5, q6⟩; omega))
        clear hc
        have b1 := and_6_1
        have b2 := and_6_2
        have b4 := and_6_4
        have b8 := and_6_8
        have b16 := and_6_16
        go_enter Tryz.func127, Tryz.ntmps127
        go_wp2_with fail
        refine (fields_any k).mono ?_
        rintro e w1 ⟨rfl, rfl⟩
        rw [HF.out]
        go_wp2
        all_goals go_ret
        all_goals exact ⟨by rw [HE.out]; rfl, (Below.refl _ _).alloc (Nat.le_refl _) _⟩
    · have hS1 : s < 0 := by omega
      have HE := Lib.hid (show En.chk ⟨k, s, n, ⟨#[]⟩, v, d⟩ = 100 from En.chk_no (by rw [may_m hm]; rintro ⟨q0, q1, q2, q3, q4, q5, q6⟩; omega))
      clear hc
      have b1 := and_6_1
      have b2 := and_6_2
      have b4 := and_6_4
      have b8 := and_6_8
      have b16 := and_6_16
      go_enter Tryz.func127, Tryz.ntmps127
      go_wp2_with fail
      refine (fields_any k).mono ?_
      rintro e w1 ⟨rfl, rfl⟩
      rw [HF.out]
      go_wp2
      all_goals go_ret
      all_goals exact ⟨by rw [HE.out]; rfl, (Below.refl _ _).alloc (Nat.le_refl _) _⟩
  · obtain ⟨hKE1, hKE2, hKE3⟩ := str_ne hc
    have hKE4 : (0 : Int) < key.size := by omega
    have HE := Lib.hid (show En.chk ⟨k, s, n, key, v, d⟩ = 100 from En.chk_no (by rw [may_m hm]; rintro ⟨q0, q1, q2, q3, q4, q5, q6⟩; omega))
    clear hc
    have b1 := and_6_1
    have b2 := and_6_2
    have b4 := and_6_4
    have b8 := and_6_8
    have b16 := and_6_16
    go_enter Tryz.func127, Tryz.ntmps127
    go_wp2_with fail
    refine (fields_any k).mono ?_
    rintro e w1 ⟨rfl, rfl⟩
    rw [HF.out]
    go_wp2
    all_goals go_ret
    all_goals exact ⟨by rw [HE.out]; rfl, (Below.refl _ _).alloc (Nat.le_refl _) _⟩
set_option maxRecDepth 100000 in
set_option maxHeartbeats 3200000 in
theorem check_5 {w : World} {A : Option Addr} {c : Nat} (s n : Int) (key : ByteArray) (v : List UInt8) (d : Bool) (hks : key.size ≤ 140737488355328) (hvl : v.length ≤ 140737488355328) :
    Calls Tryz.prog 127 #[.agg (En.cells ⟨5, s, n, key, v, d⟩ A c)] w fun e w' => e = .returned (.int .i64 (En.chk ⟨5, s, n, key, v, d⟩)) ∧ Below w.heap.size w w' := by
  unfold En.cells
  simp only
  by_cases hc : 1 ≤ key.size
  · have hK1 : (1 : Int) ≤ key.size := by omega
    clear hc
    by_cases hc : key.size ≤ 255
    · have hK2 : (key.size : Int) ≤ 255 := by omega
      clear hc
      by_cases hc : 0 ≤ s
      · have hS1 : 0 ≤ s := hc
        clear hc
        by_cases hc : s ≤ 4611686018427387904
        · have hS2 : s ≤ 4611686018427387904 := hc
          clear hc
          by_cases hc : n = 0
          · subst hc
            by_cases hc : d = false
            · subst hc
              by_cases hc : v.length ≤ 4096
              · have hV4 : (v.length : Int) ≤ 4096 := by omega
                clear hc
                have HE := Lib.hid (show En.chk ⟨5, s, 0, key, v, false⟩ = 0 from En.chk_ok (by rw [may_5]; exact ⟨by omega, by omega, by omega, by omega, rfl, by first | omega | exact Nat.zero_le _, fun hd => by first | rfl | cases hd⟩))
                have b1 := and_27_1
                have b2 := and_27_2
                have b4 := and_27_4
                have b8 := and_27_8
                have b16 := and_27_16
                go_enter Tryz.func127, Tryz.ntmps127
                go_wp2_with fail
                refine (fields_any 5).mono ?_
                rintro e w1 ⟨rfl, rfl⟩
                rw [show fieldsF 5 = 27 from rfl]
                go_wp2
                all_goals go_ret
                all_goals exact ⟨by rw [HE.out]; rfl, (Below.refl _ _).alloc (Nat.le_refl _) _⟩
              · have hV4 : (4096 : Int) < v.length := by omega
                have HE := Lib.hid (show En.chk ⟨5, s, 0, key, v, false⟩ = 100 from En.chk_no (by rw [may_5]; rintro ⟨q0, q1, q2, q3, q4, q5, q6⟩; omega))
                clear hc
                have b1 := and_27_1
                have b2 := and_27_2
                have b4 := and_27_4
                have b8 := and_27_8
                have b16 := and_27_16
                go_enter Tryz.func127, Tryz.ntmps127
                go_wp2_with fail
                refine (fields_any 5).mono ?_
                rintro e w1 ⟨rfl, rfl⟩
                rw [show fieldsF 5 = 27 from rfl]
                go_wp2
                all_goals go_ret
                all_goals exact ⟨by rw [HE.out]; rfl, (Below.refl _ _).alloc (Nat.le_refl _) _⟩
            · obtain rfl : d = true := by cases d <;> simp_all
              by_cases hc : v.length = 0
              · obtain rfl := List.eq_nil_of_length_eq_zero hc
                have HE := Lib.hid (show En.chk ⟨5, s, 0, key, [], true⟩ = 0 from En.chk_ok (by rw [may_5]; exact ⟨by omega, by omega, by omega, by omega, rfl, by first | omega | exact Nat.zero_le _, fun hd => by first | rfl | cases hd⟩))
                have b1 := and_27_1
                have b2 := and_27_2
                have b4 := and_27_4
                have b8 := and_27_8
                have b16 := and_27_16
                go_enter Tryz.func127, Tryz.ntmps127
                go_wp2_with fail
                refine (fields_any 5).mono ?_
                rintro e w1 ⟨rfl, rfl⟩
                rw [show fieldsF 5 = 27 from rfl]
                go_wp2
                all_goals go_ret
                all_goals exact ⟨by rw [HE.out]; rfl, (Below.refl _ _).alloc (Nat.le_refl _) _⟩
              · have hV0 : (0 : Int) < v.length := by omega
                have HE := Lib.hid (show En.chk ⟨5, s, 0, key, v, true⟩ = 100 from En.chk_no (by rw [may_5]; rintro ⟨q0, q1, q2, q3, q4, q5, q6⟩; have := q6 rfl; omega))
                have b1 := and_27_1
                have b2 := and_27_2
                have b4 := and_27_4
                have b8 := and_27_8
                have b16 := and_27_16
                go_enter Tryz.func127, Tryz.ntmps127
                go_wp2_with fail
                refine (fields_any 5).mono ?_
                rintro e w1 ⟨rfl, rfl⟩
                rw [show fieldsF 5 = 27 from rfl]
                go_wp2
                all_goals go_ret
                all_goals exact ⟨by rw [HE.out]; rfl, (Below.refl _ _).alloc (Nat.le_refl _) _⟩
          · have hN0 : (n != 0) = true := by rw [bne_iff_ne]; exact hc
            have hN0b : (n == 0) = false := by rw [beq_eq_false_iff_ne]; exact hc
            have HE := Lib.hid (show En.chk ⟨5, s, n, key, v, d⟩ = 100 from En.chk_no (by rw [may_5]; rintro ⟨q0, q1, q2, q3, q4, q5, q6⟩; exact hc q4))
            clear hc
            have b1 := and_27_1
            have b2 := and_27_2
            have b4 := and_27_4
            have b8 := and_27_8
            have b16 := and_27_16
            go_enter Tryz.func127, Tryz.ntmps127
            go_wp2_with fail
            refine (fields_any 5).mono ?_
            rintro e w1 ⟨rfl, rfl⟩
            rw [show fieldsF 5 = 27 from rfl]
            go_wp2
            all_goals go_ret
            all_goals exact ⟨by rw [HE.out]; rfl, (Below.refl _ _).alloc (Nat.le_refl _) _⟩
        · have hS2 : 4611686018427387904 < s := by omega
          have HE := Lib.hid (show En.chk ⟨5, s, n, key, v, d⟩ = 100 from En.chk_no (by rw [may_5]; rintro ⟨q0, q1, q2, q3, q4, q5, q6⟩; omega))
          clear hc
          have b1 := and_27_1
          have b2 := and_27_2
          have b4 := and_27_4
          have b8 := and_27_8
          have b16 := and_27_16
          go_enter Tryz.func127, Tryz.ntmps127
          go_wp2_with fail
          refine (fields_any 5).mono ?_
          rintro e w1 ⟨rfl, rfl⟩
          rw [show fieldsF 5 = 27 from rfl]
          go_wp2
          all_goals go_ret
          all_goals exact ⟨by rw [HE.out]; rfl, (Below.refl _ _).alloc (Nat.le_refl _) _⟩
      · have hS1 : s < 0 := by omega
        have HE := Lib.hid (show En.chk ⟨5, s, n, key, v, d⟩ = 100 from En.chk_no (by rw [may_5]; rintro ⟨q0, q1, q2, q3, q4, q5, q6⟩; omega))
        clear hc
        have b1 := and_27_1
        have b2 := and_27_2
        have b4 := and_27_4
        have b8 := and_27_8
        have b16 := and_27_16
        go_enter Tryz.func127, Tryz.ntmps127
        go_wp2_with fail
        refine (fields_any 5).mono ?_
        rintro e w1 ⟨rfl, rfl⟩
        rw [show fieldsF 5 = 27 from rfl]
        go_wp2
        all_goals go_ret
        all_goals exact ⟨by rw [HE.out]; rfl, (Below.refl _ _).alloc (Nat.le_refl _) _⟩
    · have hK2 : (255 : Int) < key.size := by omega
      have hK2b : decide ((key.size : Int) ≤ 255) = false := decide_eq_false (by omega)
      have HE := Lib.hid (show En.chk ⟨5, s, n, key, v, d⟩ = 100 from En.chk_no (by rw [may_5]; rintro ⟨q0, q1, q2, q3, q4, q5, q6⟩; omega))
      clear hc
      have b1 := and_27_1
      have b2 := and_27_2
      have b4 := and_27_4
      have b8 := and_27_8
      have b16 := and_27_16
      go_enter Tryz.func127, Tryz.ntmps127
      go_wp2_with fail
      refine (fields_any 5).mono ?_
      rintro e w1 ⟨rfl, rfl⟩
      rw [show fieldsF 5 = 27 from rfl]
      go_wp2
      all_goals go_ret
      all_goals exact ⟨by rw [HE.out]; rfl, (Below.refl _ _).alloc (Nat.le_refl _) _⟩
  · have hK1 : (key.size : Int) < 1 := by omega
    have HE := Lib.hid (show En.chk ⟨5, s, n, key, v, d⟩ = 100 from En.chk_no (by rw [may_5]; rintro ⟨q0, q1, q2, q3, q4, q5, q6⟩; omega))
    clear hc
    have b1 := and_27_1
    have b2 := and_27_2
    have b4 := and_27_4
    have b8 := and_27_8
    have b16 := and_27_16
    go_enter Tryz.func127, Tryz.ntmps127
    go_wp2_with fail
    refine (fields_any 5).mono ?_
    rintro e w1 ⟨rfl, rfl⟩
    rw [show fieldsF 5 = 27 from rfl]
    go_wp2
    all_goals go_ret
    all_goals exact ⟨by rw [HE.out]; rfl, (Below.refl _ _).alloc (Nat.le_refl _) _⟩
theorem check_x {w : World} {A : Option Addr} {c : Nat} (k s n : Int) (key : ByteArray) (v : List UInt8) (d : Bool) (hk : ¬ (1 ≤ k ∧ k ≤ 6)) (hks : key.size ≤ 140737488355328) (hvl : v.length ≤ 140737488355328) :
    Calls Tryz.prog 127 #[.agg (En.cells ⟨k, s, n, key, v, d⟩ A c)] w fun e w' => e = .returned (.int .i64 (En.chk ⟨k, s, n, key, v, d⟩)) ∧ Below w.heap.size w w' := by
  have HE := Lib.hid (En.chk_no (may_x (s := s) (n := n) (key := key) (v := v) (d := d) hk))
  have HF := Lib.hid (show fieldsF k = 0 from by unfold fieldsF; rw [if_neg (by omega), if_neg (by omega), if_neg (by omega), if_neg (by omega)])
  unfold En.cells
  simp only
  clear hk
  go_enter Tryz.func127, Tryz.ntmps127
  go_wp2_with fail
  refine (fields_any k).mono ?_
  rintro e w1 ⟨rfl, rfl⟩
  rw [HF.out]
  go_wp2
  all_goals go_ret
  all_goals exact ⟨by rw [HE.out]; rfl, (Below.refl _ _).alloc (Nat.le_refl _) _⟩
theorem check_any {w : World} {A : Option Addr} {c : Nat} (x : En) (hks : x.key.size ≤ 140737488355328) (hvl : x.value.length ≤ 140737488355328) :
    Calls Tryz.prog 127 #[.agg (x.cells A c)] w fun e w' => e = .returned (.int .i64 x.chk) ∧ Below w.heap.size w w' := by
  obtain ⟨k, s, n, key, v, d⟩ := x
  by_cases h1 : k = 1
  · subst h1; exact check_1 s n key v d hks hvl
  by_cases h2 : k = 2
  · subst h2; exact check_2 s n key v d hks hvl
  by_cases h5 : k = 5
  · subst h5; exact check_5 s n key v d hks hvl
  by_cases hm : k = 3 ∨ k = 4 ∨ k = 6
  · exact check_m k hm s n key v d hks hvl
  · exact check_x k s n key v d (by omega) hks hvl
end Go.Proofs.YtmnpchncmbnddaaGreat
