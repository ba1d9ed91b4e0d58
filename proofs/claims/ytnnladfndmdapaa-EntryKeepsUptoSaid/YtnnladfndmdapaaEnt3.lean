/- The reference's Check, by contract. -/
import Derived.Test.YtnnladfndmdapaaEnt3a
import Derived.Test.YtnnladfndmdapaaEnt3b
import Derived.Test.YtnnladfndmdapaaEnt3c
import Derived.Test.YtnnladfndmdapaaEnt3d
namespace Go.Proofs.Ytnnladfndmdapaa
open Go.RowKit
theorem rcheck_x {w : World} {A : Option Addr} {c : Nat} (k s n : Int) (key : ByteArray) (v : List UInt8) (d : Bool) (hk : ¬ (1 ≤ k ∧ k ≤ 6)) :
    Calls Try.prog 21 #[.agg (En.cells ⟨k, s, n, key, v, d⟩ A c)] w fun e w' => e = .returned (.int .i64 (En.chk ⟨k, s, n, key, v, d⟩)) ∧ Below w.heap.size w w' := by
  have HE := Lib.hid (En.chk_no (may_x (s := s) (n := n) (key := key) (v := v) (d := d) hk))
  unfold En.cells
  simp only
  by_cases h1 : k < 1
  · clear hk
    go_enter Try.func21, Try.ntmps21
    go_wp2
    all_goals go_ret
    all_goals exact ⟨by rw [HE.out]; rfl, (Below.refl _ _).alloc (Nat.le_refl _) _⟩
  · have h6 : 6 < k := by omega
    clear hk
    go_enter Try.func21, Try.ntmps21
    go_wp2
    all_goals go_ret
    all_goals exact ⟨by rw [HE.out]; rfl, (Below.refl _ _).alloc (Nat.le_refl _) _⟩
theorem rcheck_any {w : World} {A : Option Addr} {c : Nat} (x : En) (hks : x.key.size ≤ 140737488355328) (hvl : x.value.length ≤ 140737488355328) :
    Calls Try.prog 21 #[.agg (x.cells A c)] w fun e w' => e = .returned (.int .i64 x.chk) ∧ Below w.heap.size w w' := by
  obtain ⟨k, s, n, key, v, d⟩ := x
  by_cases h1 : k = 1
  · subst h1
    cases d
    · by_cases hn : n = 0
      · subst hn; exact rcheck_1_false_z s key v hks hvl
      · exact rcheck_1_false_nz s n key v hks hvl hn
    · exact rcheck_1_true_any s n key v hks hvl
  by_cases h2 : k = 2
  · subst h2
    cases d
    · by_cases hn : n = 0
      · subst hn; exact rcheck_2_false_z s key v hks hvl
      · exact rcheck_2_false_nz s n key v hks hvl hn
    · exact rcheck_2_true_any s n key v hks hvl
  by_cases h5 : k = 5
  · subst h5
    cases d
    · by_cases hn : n = 0
      · subst hn; exact rcheck_5_false_z s key v hks hvl
      · exact rcheck_5_false_nz s n key v hks hvl hn
    · by_cases hn : n = 0
      · subst hn; exact rcheck_5_true_z s key v hks hvl
      · exact rcheck_5_true_nz s n key v hks hvl hn
  by_cases hm : k = 3 ∨ k = 4 ∨ k = 6
  · cases d
    · exact rcheck_m_false_any k hm s n key v hks hvl
    · exact rcheck_m_true_any k hm s n key v hks hvl
  · exact rcheck_x k s n key v d (by omega)
end Go.Proofs.Ytnnladfndmdapaa
