/- row of the reference, by contract. -/
import Derived.Test.YtnnladfndmdapaaPlainD
namespace Go.Proofs.Ytnnladfndmdapaa
open Go.RowKit

set_option maxRecDepth 100000 in
theorem rnum_any {w : World} {B c : Nat} {A : Option Addr} {b : List UInt8} (hr : BReads w B A b) (hl : b.length ≤ 140737488355328) (t : Int) (ht0 : -1 ≤ t) (ht : t ≤ b.length) (most : Int) (hm0 : 0 ≤ most) (hm1 : most ≤ 4611686018427387904) :
    Calls Try.prog 73 #[.slice A b.length c, .int .i64 t, .int .i64 most] w (AnsN (numA most b t) w) := by
  by_cases h : t < 0
  · rw [numA_neg h]
    obtain rfl : t = -1 := by omega
    clear hr hm0 hm1 h ht ht0
    go_enter Try.func73, Try.ntmps73
    go_wp2
    go_ret2
    exact ⟨rfl, rfl⟩
  · obtain ⟨a, rfl⟩ : ∃ a : Nat, t = a := ⟨t.toNat, by omega⟩
    have := rnumber_any (c := c) hr hl a (by omega) most hm0 hm1
    unfold numA
    rw [if_neg h, Int.toNat_natCast]
    exact this
/-- The row that stands at a place, in new memory, and the place behind it. -/
def AnsR (w : World) (x : List UInt8 × Int) (e : Ending) (w' : World) : Prop := ∃ A c, e = .returned (.tuple #[.slice A x.1.length c, .int .i64 x.2]) ∧ BOwns w' w.heap.size (.slice A x.1.length c) x.1 ∧ Below w.heap.size w w'
set_option maxRecDepth 100000 in
theorem rrow_any {w : World} {c : Nat} {A : Option Addr} {b : List UInt8} (hr : BReads w w.heap.size A b) (hl : b.length ≤ 140737488355328) (hc : b.length ≤ c) (t : Int) (ht0 : -1 ≤ t) (ht : t ≤ b.length) (most : Int) (hm0 : 0 ≤ most) (hm1 : most ≤ 4611686018427387904) :
    Calls Try.prog 72 #[.slice A b.length c, .int .i64 t, .int .i64 most] w (AnsR w (rowA most b t)) := by
  have hn := rnum_any (c := c) hr hl t ht0 ht most hm0 hm1
  have hbd := numA_bd (b := b) (t := t) hm0
  have HR0 : Hid (∀ r, r = rowA most b t → r = if (numA most b t).2 < 0 ∨ (b.length : Int) - (numA most b t).2 < (numA most b t).1 then ([], -1) else ((b.drop (numA most b t).2.toNat).take (numA most b t).1.toNat, (numA most b t).2 + (numA most b t).1)) := Lib.hid (fun r h => h)
  obtain ⟨r, hrow⟩ : ∃ r, r = rowA most b t := ⟨_, rfl⟩
  have HR1 := HR0.out r hrow
  rw [← hrow]
  obtain ⟨⟨N, F⟩, hx⟩ : ∃ x, x = numA most b t := ⟨_, rfl⟩
  rw [← hx] at hn hbd HR1
  simp only at hbd HR1
  obtain ⟨b1, b2, b3, b4⟩ := hbd
  have HB := Lib.hid hr
  replace HR1 := Lib.hid HR1
  clear HR0 hrow hx hr hm0 hm1
  by_cases hf : F < 0
  · have HE := Lib.hid (show r = ([], -1) from by rw [HR1.out, if_pos (.inl hf)])
    clear HR1
    go_enter Try.func72, Try.ntmps72
    go_wp2_with fail
    refine hn.mono ?_
    rintro e w' ⟨rfl, rfl⟩
    clear hn b3 b4
    go_wp2
    go_ret2
    rw [HE.out]
    exact ⟨none, 0, rfl, BOwns.nil _ _, Below.refl _ _⟩
  · obtain ⟨f, rfl⟩ : ∃ f : Nat, F = f := ⟨F.toNat, by omega⟩
    obtain ⟨n, rfl⟩ : ∃ n : Nat, N = n := ⟨N.toNat, by omega⟩
    by_cases hs : (b.length : Int) - (f : Int) < (n : Int)
    · have HE := Lib.hid (show r = ([], -1) from by rw [HR1.out, if_pos (.inr hs)])
      clear HR1
      go_enter Try.func72, Try.ntmps72
      go_wp2_with fail
      refine hn.mono ?_
      rintro e w' ⟨rfl, rfl⟩
      clear hn
      go_wp2
      go_ret2
      rw [HE.out]
      exact ⟨none, 0, rfl, BOwns.nil _ _, Below.refl _ _⟩
    · have HE := Lib.hid (show r = ((b.drop f).take n, (f : Int) + n) from by rw [HR1.out, if_neg (by omega)]; simp)
      have hfn : (f : Int) + (n : Int) ≤ b.length := by omega
      have hlen : ((b.drop f).take n).length = n := by rw [List.length_take, List.length_drop]; omega
      obtain ⟨p, hp⟩ : ∃ p, p = (b.drop f).take n := ⟨_, rfl⟩
      rw [← hp] at hlen HE
      have HP := Lib.hid hp
      have HL := Lib.hid hlen
      clear HR1 hp hlen
      go_enter Try.func72, Try.ntmps72
      go_wp2_with fail
      refine hn.mono ?_
      rintro e w' ⟨rfl, rfl⟩
      clear hn
      go_wp2_with (at_builtin; refine Stop.of ?_)
      · have he := h
        have HS := reads_sub_eq HB.out (at_ := f) (n := n) (by omega) hc he
        rw [← HP.out] at HS
        have hsrc := HS.src (c := 0)
        rw [HL.out] at hsrc
        refine ⟨append_bytes (BOwns.nil _ _) (l := []) (m := p) (by rw [HL.out]; exact hsrc) (by rw [HL.out]; simp; omega) (Nat.le_refl _) rfl rfl rfl rfl ?_⟩
        intro v' w1 hown hg _
        have HO := Lib.hid (show BOwns w1 w'.heap.size v' p from hown)
        have HG := Lib.hid (below_of_nil hg)
        clear hown hg hsrc HS
        go_wp2
        go_ret2
        rw [HE.out]
        obtain ⟨A', c', e', _, _⟩ := BOwns.slice HO.out
        refine ⟨A', c', ?_, by rw [← show v' = _ from e']; exact HO.out, HG.out⟩
        rw [show v' = _ from e']; rfl
      · have he := h
        have HS := reads_sub_ne HB.out (at_ := f) (n := n) (by omega) hc he
        rw [← HP.out] at HS
        have hsrc := HS.src (c := c - f)
        rw [HL.out] at hsrc
        refine ⟨append_bytes (BOwns.nil _ _) (l := []) (m := p) (by rw [HL.out]; exact hsrc) (by rw [HL.out]; simp; omega) (Nat.le_refl _) rfl rfl rfl rfl ?_⟩
        intro v' w1 hown hg _
        have HO := Lib.hid (show BOwns w1 w'.heap.size v' p from hown)
        have HG := Lib.hid (below_of_nil hg)
        clear hown hg hsrc HS
        go_wp2
        go_ret2
        rw [HE.out]
        obtain ⟨A', c', e', _, _⟩ := BOwns.slice HO.out
        refine ⟨A', c', ?_, by rw [← show v' = _ from e']; exact HO.out, HG.out⟩
        rw [show v' = _ from e']; rfl
end Go.Proofs.Ytnnladfndmdapaa
