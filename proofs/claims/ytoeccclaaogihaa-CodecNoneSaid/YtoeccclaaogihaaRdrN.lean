/- A reader that is not there (printed by a program of this claim's own). -/
import Derived.Test.YtoeccclaaogihaaStep
namespace Go.Proofs.Ytoeccclaaogihaa
open Go.RowKit

theorem nilInt_any {w : World} (low : Int) (high : Int) :
    Calls Try.prog 47 #[.pointer none, .int .i64 low, .int .i64 high] w fun e w' => e = .returned (.int .i64 0) ∧ Below w.heap.size w w' := by
  have hmf : ∀ (fn : Fn) (first cap : Array Value) (w : World), (Instr.makeFunc fn first cap).run Try.prog w = .ok (.func fn first cap) w := fun _ _ _ _ => rfl
  go_enter Try.func47, Try.ntmps47
  go_wp2_with fail
  obtain ⟨W1, hW1⟩ : ∃ x, x = w.alloc (.cells #[.pointer none] 51) := ⟨_, rfl⟩
  obtain ⟨W2, hW2⟩ : ∃ x, x = W1.alloc (.cells #[.int .i64 low] 3) := ⟨_, rfl⟩
  obtain ⟨W3, hW3⟩ : ∃ x, x = W2.alloc (.cells #[.int .i64 high] 3) := ⟨_, rfl⟩
  obtain ⟨W4, hW4⟩ : ∃ x, x = W3.alloc (.cells #[.int .i64 0] 3) := ⟨_, rfl⟩
  have s1 : W1.heap.size = w.heap.size + 1 := by rw [hW1]; simp; try omega
  have s2 : W2.heap.size = w.heap.size + 1 + 1 := by rw [hW2]; simp; try omega
  have s3 : W3.heap.size = w.heap.size + 1 + 1 + 1 := by rw [hW3]; simp; try omega
  have k1 : Blk W4 (w.heap.size + 1 + 1 + 1) 3 #[.int .i64 0] := by rw [← s3, hW4]; exact Blk.new _ _ _
  have B1 : Below w.heap.size w W1 := by rw [hW1]; exact (Below.refl _ _).alloc (Nat.le_refl _) _
  have B2 : Below w.heap.size w W2 := by rw [hW2]; exact B1.alloc B1.size _
  have B3 : Below w.heap.size w W3 := by rw [hW3]; exact B2.alloc B2.size _
  have B4 : Below w.heap.size w W4 := by rw [hW4]; exact B3.alloc B3.size _
  rw [← hW1, ← hW2, ← hW3, ← hW4]
  clear hW1 hW2 hW3 hW4 s1 s2 s3
  refine (reading_none _).mono ?_
  rintro e w5 ⟨rfl, hb⟩
  have c1 := (k1.below' hb).cell 0
  simp at c1
  have BB := Lib.hid (B4.trans (hb.mono B4.size))
  clear hb k1 B1 B2 B3 B4
  go_wp2
  go_ret
  exact ⟨rfl, BB.out⟩
theorem nilBytes_any {w : World} (most : Int) :
    Calls Try.prog 48 #[.pointer none, .int .i64 most] w fun e w' => e = .returned (.slice none 0 0) ∧ Below w.heap.size w w' := by
  have hmf : ∀ (fn : Fn) (first cap : Array Value) (w : World), (Instr.makeFunc fn first cap).run Try.prog w = .ok (.func fn first cap) w := fun _ _ _ _ => rfl
  go_enter Try.func48, Try.ntmps48
  go_wp2_with fail
  obtain ⟨W1, hW1⟩ : ∃ x, x = w.alloc (.cells #[.pointer none] 51) := ⟨_, rfl⟩
  obtain ⟨W2, hW2⟩ : ∃ x, x = W1.alloc (.cells #[.int .i64 most] 3) := ⟨_, rfl⟩
  obtain ⟨W3, hW3⟩ : ∃ x, x = W2.alloc (.cells #[.slice none 0 0] 23) := ⟨_, rfl⟩
  have s1 : W1.heap.size = w.heap.size + 1 := by rw [hW1]; simp; try omega
  have s2 : W2.heap.size = w.heap.size + 1 + 1 := by rw [hW2]; simp; try omega
  have k1 : Blk W3 (w.heap.size + 1 + 1) 23 #[.slice none 0 0] := by rw [← s2, hW3]; exact Blk.new _ _ _
  have B1 : Below w.heap.size w W1 := by rw [hW1]; exact (Below.refl _ _).alloc (Nat.le_refl _) _
  have B2 : Below w.heap.size w W2 := by rw [hW2]; exact B1.alloc B1.size _
  have B3 : Below w.heap.size w W3 := by rw [hW3]; exact B2.alloc B2.size _
  rw [← hW1, ← hW2, ← hW3]
  clear hW1 hW2 hW3 s1 s2
  refine (reading_none _).mono ?_
  rintro e w5 ⟨rfl, hb⟩
  have c1 := (k1.below' hb).cell 0
  simp at c1
  have BB := Lib.hid (B3.trans (hb.mono B3.size))
  clear hb k1 B1 B2 B3
  go_wp2
  go_ret
  exact ⟨rfl, BB.out⟩
theorem nilText_any {w : World} (most : Int) :
    Calls Try.prog 63 #[.pointer none, .int .i64 most] w fun e w' => e = .returned (.string ⟨#[]⟩) ∧ Below w.heap.size w w' := by
  have hmf : ∀ (fn : Fn) (first cap : Array Value) (w : World), (Instr.makeFunc fn first cap).run Try.prog w = .ok (.func fn first cap) w := fun _ _ _ _ => rfl
  go_enter Try.func63, Try.ntmps63
  go_wp2_with fail
  obtain ⟨W1, hW1⟩ : ∃ x, x = w.alloc (.cells #[.pointer none] 51) := ⟨_, rfl⟩
  obtain ⟨W2, hW2⟩ : ∃ x, x = W1.alloc (.cells #[.int .i64 most] 3) := ⟨_, rfl⟩
  obtain ⟨W3, hW3⟩ : ∃ x, x = W2.alloc (.cells #[.string ⟨#[]⟩] 9) := ⟨_, rfl⟩
  have s1 : W1.heap.size = w.heap.size + 1 := by rw [hW1]; simp; try omega
  have s2 : W2.heap.size = w.heap.size + 1 + 1 := by rw [hW2]; simp; try omega
  have k1 : Blk W3 (w.heap.size + 1 + 1) 9 #[.string ⟨#[]⟩] := by rw [← s2, hW3]; exact Blk.new _ _ _
  have B1 : Below w.heap.size w W1 := by rw [hW1]; exact (Below.refl _ _).alloc (Nat.le_refl _) _
  have B2 : Below w.heap.size w W2 := by rw [hW2]; exact B1.alloc B1.size _
  have B3 : Below w.heap.size w W3 := by rw [hW3]; exact B2.alloc B2.size _
  rw [← hW1, ← hW2, ← hW3]
  clear hW1 hW2 hW3 s1 s2
  refine (reading_none _).mono ?_
  rintro e w5 ⟨rfl, hb⟩
  have c1 := (k1.below' hb).cell 0
  simp at c1
  have BB := Lib.hid (B3.trans (hb.mono B3.size))
  clear hb k1 B1 B2 B3
  go_wp2
  go_ret
  exact ⟨rfl, BB.out⟩
theorem nilTake8_any {w : World}  :
    Calls Try.prog 50 #[.pointer none] w fun e w' => e = .returned (.int .u8 0) ∧ Below w.heap.size w w' := by
  have hmf : ∀ (fn : Fn) (first cap : Array Value) (w : World), (Instr.makeFunc fn first cap).run Try.prog w = .ok (.func fn first cap) w := fun _ _ _ _ => rfl
  go_enter Try.func50, Try.ntmps50
  go_wp2_with fail
  obtain ⟨W1, hW1⟩ : ∃ x, x = w.alloc (.cells #[.pointer none] 51) := ⟨_, rfl⟩
  obtain ⟨W2, hW2⟩ : ∃ x, x = W1.alloc (.cells #[.int .u64 0] 30) := ⟨_, rfl⟩
  have s1 : W1.heap.size = w.heap.size + 1 := by rw [hW1]; simp; try omega
  have k1 : Blk W2 (w.heap.size + 1) 30 #[.int .u64 0] := by rw [← s1, hW2]; exact Blk.new _ _ _
  have B1 : Below w.heap.size w W1 := by rw [hW1]; exact (Below.refl _ _).alloc (Nat.le_refl _) _
  have B2 : Below w.heap.size w W2 := by rw [hW2]; exact B1.alloc B1.size _
  rw [← hW1, ← hW2]
  clear hW1 hW2 s1
  refine (reading_none _).mono ?_
  rintro e w5 ⟨rfl, hb⟩
  have c1 := (k1.below' hb).cell 0
  simp at c1
  have BB := Lib.hid (B2.trans (hb.mono B2.size))
  clear hb k1 B1 B2
  go_wp2
  go_ret
  exact ⟨rfl, BB.out⟩
theorem nilTake16_any {w : World}  :
    Calls Try.prog 62 #[.pointer none] w fun e w' => e = .returned (.int .u16 0) ∧ Below w.heap.size w w' := by
  have hmf : ∀ (fn : Fn) (first cap : Array Value) (w : World), (Instr.makeFunc fn first cap).run Try.prog w = .ok (.func fn first cap) w := fun _ _ _ _ => rfl
  go_enter Try.func62, Try.ntmps62
  go_wp2_with fail
  obtain ⟨W1, hW1⟩ : ∃ x, x = w.alloc (.cells #[.pointer none] 51) := ⟨_, rfl⟩
  obtain ⟨W2, hW2⟩ : ∃ x, x = W1.alloc (.cells #[.int .u64 0] 30) := ⟨_, rfl⟩
  have s1 : W1.heap.size = w.heap.size + 1 := by rw [hW1]; simp; try omega
  have k1 : Blk W2 (w.heap.size + 1) 30 #[.int .u64 0] := by rw [← s1, hW2]; exact Blk.new _ _ _
  have B1 : Below w.heap.size w W1 := by rw [hW1]; exact (Below.refl _ _).alloc (Nat.le_refl _) _
  have B2 : Below w.heap.size w W2 := by rw [hW2]; exact B1.alloc B1.size _
  rw [← hW1, ← hW2]
  clear hW1 hW2 s1
  refine (reading_none _).mono ?_
  rintro e w5 ⟨rfl, hb⟩
  have c1 := (k1.below' hb).cell 0
  simp at c1
  have BB := Lib.hid (B2.trans (hb.mono B2.size))
  clear hb k1 B1 B2
  go_wp2
  go_ret
  exact ⟨rfl, BB.out⟩
theorem nilTakeW_any {w : World}  :
    Calls Try.prog 67 #[.pointer none] w fun e w' => e = .returned (.int .u16 0) ∧ Below w.heap.size w w' := by
  have hmf : ∀ (fn : Fn) (first cap : Array Value) (w : World), (Instr.makeFunc fn first cap).run Try.prog w = .ok (.func fn first cap) w := fun _ _ _ _ => rfl
  go_enter Try.func67, Try.ntmps67
  go_wp2_with fail
  obtain ⟨W1, hW1⟩ : ∃ x, x = w.alloc (.cells #[.pointer none] 51) := ⟨_, rfl⟩
  obtain ⟨W2, hW2⟩ : ∃ x, x = W1.alloc (.cells #[.int .u64 0] 30) := ⟨_, rfl⟩
  have s1 : W1.heap.size = w.heap.size + 1 := by rw [hW1]; simp; try omega
  have k1 : Blk W2 (w.heap.size + 1) 30 #[.int .u64 0] := by rw [← s1, hW2]; exact Blk.new _ _ _
  have B1 : Below w.heap.size w W1 := by rw [hW1]; exact (Below.refl _ _).alloc (Nat.le_refl _) _
  have B2 : Below w.heap.size w W2 := by rw [hW2]; exact B1.alloc B1.size _
  rw [← hW1, ← hW2]
  clear hW1 hW2 s1
  refine (reading_none _).mono ?_
  rintro e w5 ⟨rfl, hb⟩
  have c1 := (k1.below' hb).cell 0
  simp at c1
  have BB := Lib.hid (B2.trans (hb.mono B2.size))
  clear hb k1 B1 B2
  go_wp2
  go_ret
  exact ⟨rfl, BB.out⟩
theorem nilTake32_any {w : World}  :
    Calls Try.prog 49 #[.pointer none] w fun e w' => e = .returned (.int .u32 0) ∧ Below w.heap.size w w' := by
  have hmf : ∀ (fn : Fn) (first cap : Array Value) (w : World), (Instr.makeFunc fn first cap).run Try.prog w = .ok (.func fn first cap) w := fun _ _ _ _ => rfl
  go_enter Try.func49, Try.ntmps49
  go_wp2_with fail
  obtain ⟨W1, hW1⟩ : ∃ x, x = w.alloc (.cells #[.pointer none] 51) := ⟨_, rfl⟩
  obtain ⟨W2, hW2⟩ : ∃ x, x = W1.alloc (.cells #[.int .u64 0] 30) := ⟨_, rfl⟩
  have s1 : W1.heap.size = w.heap.size + 1 := by rw [hW1]; simp; try omega
  have k1 : Blk W2 (w.heap.size + 1) 30 #[.int .u64 0] := by rw [← s1, hW2]; exact Blk.new _ _ _
  have B1 : Below w.heap.size w W1 := by rw [hW1]; exact (Below.refl _ _).alloc (Nat.le_refl _) _
  have B2 : Below w.heap.size w W2 := by rw [hW2]; exact B1.alloc B1.size _
  rw [← hW1, ← hW2]
  clear hW1 hW2 s1
  refine (reading_none _).mono ?_
  rintro e w5 ⟨rfl, hb⟩
  have c1 := (k1.below' hb).cell 0
  simp at c1
  have BB := Lib.hid (B2.trans (hb.mono B2.size))
  clear hb k1 B1 B2
  go_wp2
  go_ret
  exact ⟨rfl, BB.out⟩
theorem nilTake64_any {w : World}  :
    Calls Try.prog 68 #[.pointer none] w fun e w' => e = .returned (.int .u64 0) ∧ Below w.heap.size w w' := by
  have hmf : ∀ (fn : Fn) (first cap : Array Value) (w : World), (Instr.makeFunc fn first cap).run Try.prog w = .ok (.func fn first cap) w := fun _ _ _ _ => rfl
  go_enter Try.func68, Try.ntmps68
  go_wp2_with fail
  obtain ⟨W1, hW1⟩ : ∃ x, x = w.alloc (.cells #[.pointer none] 51) := ⟨_, rfl⟩
  obtain ⟨W2, hW2⟩ : ∃ x, x = W1.alloc (.cells #[.int .u64 0] 30) := ⟨_, rfl⟩
  have s1 : W1.heap.size = w.heap.size + 1 := by rw [hW1]; simp; try omega
  have k1 : Blk W2 (w.heap.size + 1) 30 #[.int .u64 0] := by rw [← s1, hW2]; exact Blk.new _ _ _
  have B1 : Below w.heap.size w W1 := by rw [hW1]; exact (Below.refl _ _).alloc (Nat.le_refl _) _
  have B2 : Below w.heap.size w W2 := by rw [hW2]; exact B1.alloc B1.size _
  rw [← hW1, ← hW2]
  clear hW1 hW2 s1
  refine (reading_none _).mono ?_
  rintro e w5 ⟨rfl, hb⟩
  have c1 := (k1.below' hb).cell 0
  simp at c1
  have BB := Lib.hid (B2.trans (hb.mono B2.size))
  clear hb k1 B1 B2
  go_wp2
  go_ret
  exact ⟨rfl, BB.out⟩
theorem nilFault_any {w : World} : Calls Try.prog 41 #[.pointer none] w fun e w' => e = .returned (.int .i64 1) ∧ w = w' := by
  go_enter Try.func41, Try.ntmps41
  go_wp2
  go_ret
  exact ⟨rfl, rfl⟩
theorem nilLeft_any {w : World} : Calls Try.prog 42 #[.pointer none] w fun e w' => e = .returned (.int .i64 0) ∧ w = w' := by
  go_enter Try.func42, Try.ntmps42
  go_wp2
  go_ret
  exact ⟨rfl, rfl⟩
theorem nilEnd_any {w : World} : Calls Try.prog 44 #[.pointer none] w fun e w' => e = .returned (.int .i64 1) ∧ w = w' := by
  go_enter Try.func44, Try.ntmps44
  go_wp2_with fail
  refine nilFault_any.mono ?_
  rintro e w1 ⟨rfl, rfl⟩
  go_wp2
  go_ret
  exact ⟨rfl, rfl⟩
/-- What a reader that is not there answers to a step: a number alone. -/
def noneF (s : Sp) : Int := if s.kind = 8 then 1 else if s.kind = 9 then 1 else 0
def StepNone (w : World) (n : Int) (e : Ending) (w' : World) : Prop := ∃ A c, e = .returned (.tuple #[.int .u64 n, .slice A 0 c]) ∧ Below w.heap.size w w'
set_option maxRecDepth 100000 in
theorem stepN_any {w : World} (s : Sp) :
    Calls Try.prog 40 #[.pointer none, s.v] w (StepNone w (noneF s)) := by
  obtain ⟨kind, low, high, most⟩ := s
  unfold Sp.v noneF
  simp only
  by_cases hk0 : kind = 0
  · subst hk0
    simp only [Int.reduceEq, if_false, if_true]
    go_enter Try.func40, Try.ntmps40
    go_wp2_with fail
    refine (nilTake8_any).mono ?_
    rintro e w1 ⟨rfl, hb⟩
    have B1 := Lib.hid (below_alloc1 hb)
    clear hb
    go_wp2
    go_ret2
    exact ⟨_, _, rfl, B1.out⟩
  by_cases hk1 : kind = 1
  · subst hk1
    simp only [Int.reduceEq, if_false, if_true]
    by_cases hlow : 0 < low
    · go_enter Try.func40, Try.ntmps40
      go_wp2_with fail
      refine (nilTakeW_any).mono ?_
      rintro e w1 ⟨rfl, hb⟩
      have B1 := Lib.hid (below_alloc1 hb)
      clear hb
      go_wp2
      go_ret2
      exact ⟨_, _, rfl, B1.out⟩
    · go_enter Try.func40, Try.ntmps40
      go_wp2_with fail
      refine (nilTake16_any).mono ?_
      rintro e w1 ⟨rfl, hb⟩
      have B1 := Lib.hid (below_alloc1 hb)
      clear hb
      go_wp2
      go_ret2
      exact ⟨_, _, rfl, B1.out⟩
  by_cases hk2 : kind = 2
  · subst hk2
    simp only [Int.reduceEq, if_false, if_true]
    go_enter Try.func40, Try.ntmps40
    go_wp2_with fail
    refine (nilTake32_any).mono ?_
    rintro e w1 ⟨rfl, hb⟩
    have B1 := Lib.hid (below_alloc1 hb)
    clear hb
    go_wp2
    go_ret2
    exact ⟨_, _, rfl, B1.out⟩
  by_cases hk3 : kind = 3
  · subst hk3
    simp only [Int.reduceEq, if_false, if_true]
    go_enter Try.func40, Try.ntmps40
    go_wp2_with fail
    refine (nilTake64_any).mono ?_
    rintro e w1 ⟨rfl, hb⟩
    have B1 := Lib.hid (below_alloc1 hb)
    clear hb
    go_wp2
    go_ret2
    exact ⟨_, _, rfl, B1.out⟩
  by_cases hk4 : kind = 4
  · subst hk4
    simp only [Int.reduceEq, if_false, if_true]
    go_enter Try.func40, Try.ntmps40
    go_wp2_with fail
    refine (nilInt_any low high).mono ?_
    rintro e w1 ⟨rfl, hb⟩
    have B1 := Lib.hid (below_alloc1 hb)
    clear hb
    go_wp2
    go_ret2
    exact ⟨_, _, rfl, B1.out⟩
  by_cases hk5 : kind = 5
  · subst hk5
    simp only [Int.reduceEq, if_false, if_true]
    go_enter Try.func40, Try.ntmps40
    go_wp2_with fail
    refine (nilText_any most).mono ?_
    rintro e w1 ⟨rfl, hb⟩
    have B1 := Lib.hid (below_alloc1 hb)
    clear hb
    have kc := conv_bytes w1 ⟨#[]⟩
    have B2 := Lib.hid (B1.out.trans ((bytesWorld_below w1 5 ⟨#[]⟩).mono B1.out.size))
    go_wp2
    go_ret2
    exact ⟨_, _, rfl, B2.out⟩
  by_cases hk6 : kind = 6
  · subst hk6
    simp only [Int.reduceEq, if_false, if_true]
    go_enter Try.func40, Try.ntmps40
    go_wp2_with fail
    refine (nilBytes_any most).mono ?_
    rintro e w1 ⟨rfl, hb⟩
    have B1 := Lib.hid (below_alloc1 hb)
    clear hb
    go_wp2
    go_ret2
    exact ⟨_, _, rfl, B1.out⟩
  by_cases hk7 : kind = 7
  · subst hk7
    simp only [Int.reduceEq, if_false, if_true]
    go_enter Try.func40, Try.ntmps40
    go_wp2_with fail
    refine (nilLeft_any).mono ?_
    rintro e w1 ⟨rfl, rfl⟩
    go_wp2
    go_ret2
    exact ⟨_, _, rfl, (Below.refl _ _).alloc (Nat.le_refl _) _⟩
  by_cases hk8 : kind = 8
  · subst hk8
    simp only [Int.reduceEq, if_false, if_true]
    go_enter Try.func40, Try.ntmps40
    go_wp2_with fail
    refine (nilFault_any).mono ?_
    rintro e w1 ⟨rfl, rfl⟩
    go_wp2
    go_ret2
    exact ⟨_, _, rfl, (Below.refl _ _).alloc (Nat.le_refl _) _⟩
  by_cases hk9 : kind = 9
  · subst hk9
    simp only [Int.reduceEq, if_false, if_true]
    go_enter Try.func40, Try.ntmps40
    go_wp2_with fail
    refine (nilEnd_any).mono ?_
    rintro e w1 ⟨rfl, rfl⟩
    go_wp2
    go_ret2
    exact ⟨_, _, rfl, (Below.refl _ _).alloc (Nat.le_refl _) _⟩
  rw [if_neg hk8, if_neg hk9]
  have k0 : (kind == 0) = false := by simp; omega
  have k1 : (kind == 1) = false := by simp; omega
  have k2 : (kind == 2) = false := by simp; omega
  have k3 : (kind == 3) = false := by simp; omega
  have k4 : (kind == 4) = false := by simp; omega
  have k5 : (kind == 5) = false := by simp; omega
  have k6 : (kind == 6) = false := by simp; omega
  have k7 : (kind == 7) = false := by simp; omega
  have k8 : (kind == 8) = false := by simp; omega
  have k9 : (kind == 9) = false := by simp; omega
  clear hk0 hk1 hk2 hk3 hk4 hk5 hk6 hk7 hk8 hk9
  go_enter Try.func40, Try.ntmps40
  go_wp2
  go_ret2
  exact ⟨_, _, rfl, (Below.refl _ _).alloc (Nat.le_refl _) _⟩
end Go.Proofs.Ytoeccclaaogihaa
