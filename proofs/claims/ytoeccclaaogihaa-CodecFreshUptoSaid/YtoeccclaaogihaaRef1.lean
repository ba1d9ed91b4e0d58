/- The reference's Puts: fold, short, PutInt, PutBytes, each by its contract. -/
import Derived.Test.YtoeccclaaogihaaCodec1
namespace Go.Proofs.Ytoeccclaaogihaa
open Go.RowKit

theorem fold_any {w : World} (n : Int) (h0 : -9223372036854775808 ≤ n) (h1 : n ≤ 9223372036854775807) :
    Calls Try.prog 56 #[.int .i64 n] w fun e w' => e = .returned (.int .u64 (foldI n : Nat)) ∧ w = w' := by
  by_cases hn : 0 ≤ n
  · have HF := Lib.hid (foldI_nonneg hn)
    go_enter Try.func56, Try.ntmps56
    go_wp2
    go_ret
    exact ⟨by rw [HF.out]; congr 2, rfl⟩
  · have HF := Lib.hid (foldI_neg (n := n) (by omega))
    go_enter Try.func56, Try.ntmps56
    go_wp2
    go_ret
    exact ⟨by rw [HF.out]; congr 2, rfl⟩

theorem refShort_small {w : World} (u : Nat) (h : u < 128) : Calls Try.prog 55 #[.int .u64 u] w (GivesB w (shortF u)) := by
  have hs : (u : Int) < 128 := by omega
  rw [shortF_small h]
  have HB := Lib.hid (byte_owns w (UInt8.ofNat u) (n := u) (by rw [u8_int _ (by omega)]))
  go_enter Try.func55, Try.ntmps55
  go_wp2
  go_ret
  exact ⟨_, rfl, HB.out, (Below.refl _ _).alloc (Nat.le_refl _) _⟩

theorem refShort_all (d : Nat) : ∀ (w : World) (u : Nat), u < 128 ^ (d + 1) → u < 18446744073709551616 →
    Calls Try.prog 55 #[.int .u64 u] w (GivesB w (shortF u)) := by
  induction d with
  | zero => exact fun w u hu _ => refShort_small u (by simpa using hu)
  | succ d ih =>
    intro w u hu hu2
    by_cases hs : u < 128
    · exact refShort_small u hs
    · have IH := Lib.hid ih
      have H := Lib.hid (show u / 128 < 128 ^ (d + 1) from by rw [Nat.div_lt_iff_lt_mul (by omega)]; rw [Nat.pow_succ] at hu; omega)
      have H2 := Lib.hid hu2
      have HB := Lib.hid (byte_owns w (UInt8.ofNat (u % 128 + 128)) (n := (u : Int) % 128 + 128) (by rw [u8_int _ (by omega)]; omega))
      have HE := Lib.hid (show IntKind.u64.wrap ((u : Int) / 128) = ((u / 128 : Nat) : Int) from by rw [wrap_u64]; omega)
      rw [shortF_big (by omega)]
      have hs' : ¬ (u : Int) < 128 := by omega
      clear ih hu hu2 hs
      go_enter Try.func55, Try.ntmps55
      go_wp2_with fail
      rw [HE.out]
      refine (IH.out _ (u / 128) H.out (by have := H2.out; omega)).mono ?_
      rintro e w1 h
      obtain ⟨v1, rfl, ho, hb⟩ := h.out
      obtain ⟨A1, c1, rfl, _, hr1⟩ := ho.slice
      have HR := Lib.hid hr1
      have HB1 := Lib.hid (below_alloc1 hb)
      have HO := Lib.hid (HB.out.below hb)
      clear ho hb h hr1
      go_wp2_with (at_builtin; refine Stop.of ?_)
      refine ⟨append_bytes HO.out HR.out.src (by have := shortF_length (u := u / 128) (by have := H2.out; omega); simp only [List.length_cons, List.length_nil]; omega) HB1.out.size rfl rfl rfl rfl ?_⟩
      intro v' w2 ho2 hg2 _
      have HO2 := Lib.hid ho2
      have HB2 := Lib.hid (below_grown HB1.out HO.out hg2)
      clear ho2 hg2
      go_wp2
      go_ret
      exact ⟨v', rfl, HO2.out, HB2.out⟩

theorem refShort_any {w : World} (u : Nat) (h : u < 18446744073709551616) : Calls Try.prog 55 #[.int .u64 u] w (GivesB w (shortF u)) :=
  refShort_all 9 w u (by omega) h

theorem refPutInt_any {w : World} {B c : Nat} {A : Option Addr} {l : List UInt8} (n : Int) (hr : BReads w B A l) (hB : B ≤ w.heap.size)
    (h0 : -9223372036854775808 ≤ n) (h1 : n ≤ 9223372036854775807) (hl : l.length ≤ 140737488355200) :
    Calls Try.prog 21 #[.slice A l.length c, .int .i64 n] w (GivesB w (l ++ intF n)) := by
  have HR := Lib.hid (hr.below ((Below.refl B w).alloc hB (.cells #[] 5)))
  clear hr
  go_enter Try.func21, Try.ntmps21
  go_wp2_with (at_builtin; refine Stop.of ?_)
  refine ⟨append_bytes (empty_owns w) HR.out.src (by simp only [List.length_nil]; omega) (by simp) rfl rfl rfl rfl ?_⟩
  intro v1 w1 ho hg _
  have HO := Lib.hid ho
  have HB := Lib.hid (show Below w.heap.size w w1 from below_grown ((Below.refl _ _).alloc (Nat.le_refl _) _) (empty_owns w) hg)
  clear ho hg
  go_wp2_with fail
  refine (fold_any n h0 h1).mono ?_
  rintro e w2 ⟨rfl, rfl⟩
  go_wp2_with fail
  refine (refShort_any (foldI n) (foldI_lt h0 h1)).mono ?_
  rintro e w2 h
  obtain ⟨v2, rfl, ho2, hb2⟩ := h.out
  obtain ⟨A2, c2, rfl, _, hr2⟩ := ho2.slice
  have HR2 := Lib.hid hr2
  have HO1 := Lib.hid (HO.out.below hb2)
  have HB2 := Lib.hid (HB.out.trans (hb2.mono HB.out.size))
  clear ho2 hb2 h hr2
  go_wp2_with (at_builtin; refine Stop.of ?_)
  refine ⟨append_bytes HO1.out HR2.out.src (by have := shortF_length (foldI_lt h0 h1); simp only [List.nil_append]; omega) HB2.out.size rfl rfl rfl rfl ?_⟩
  intro v' w3 ho3 hg3 _
  have HO3 := Lib.hid ho3
  have HB3 := Lib.hid (below_grown HB2.out HO1.out hg3)
  clear ho3 hg3
  go_wp2
  go_ret
  exact ⟨v', rfl, HO3.out, HB3.out⟩

theorem refPutBytes_any {w : World} {B B' c c' : Nat} {A A' : Option Addr} {l p : List UInt8} (hr : BReads w B A l) (hBl : B ≤ w.heap.size) (hp : BReads w B' A' p) (hB : B' ≤ w.heap.size)
    (hl : l.length + p.length ≤ 140737488355200) :
    Calls Try.prog 22 #[.slice A l.length c, .slice A' p.length c'] w (GivesB w (l ++ intF p.length ++ p)) := by
  have HP := Lib.hid (hp.more hB)
  clear hp
  go_enter Try.func22, Try.ntmps22
  go_wp2_with fail
  refine (refPutInt_any (p.length : Int) hr hBl (by omega) (by omega) (by omega)).mono ?_
  rintro e w1 h
  obtain ⟨v1, rfl, ho, hb⟩ := h.out
  have HO := Lib.hid ho
  have HB := Lib.hid hb
  clear ho hb h
  go_wp2_with (at_builtin; refine Stop.of ?_)
  have hil := intF_length (n := (p.length : Int)) (by omega) (by omega)
  refine ⟨append_bytes HO.out (HP.out.below HB.out).src (by rw [List.length_append]; omega) HB.out.size rfl rfl rfl rfl ?_⟩
  intro v' w2 ho2 hg2 _
  have HO2 := Lib.hid ho2
  have HB2 := Lib.hid (below_grown HB.out HO.out hg2)
  clear ho2 hg2
  go_wp2
  go_ret
  exact ⟨v', rfl, HO2.out, HB2.out⟩
end Go.Proofs.Ytoeccclaaogihaa
