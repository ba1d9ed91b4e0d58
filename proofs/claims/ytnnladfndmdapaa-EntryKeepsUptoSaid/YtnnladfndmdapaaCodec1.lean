/- The Puts of package codec: own, short, PutInt, PutText, PutBytes, each by its contract. -/
import Derived.Test.YtnnladfndmdapaaBase
namespace Go.Proofs.Ytnnladfndmdapaa
open Go.RowKit

/-- The call answers the bytes l in new memory, and leaves what was there. -/
def GivesB (w : World) (l : List UInt8) (e : Ending) (w' : World) : Prop := ∃ v', e = .returned v' ∧ BOwns w' w.heap.size v' l ∧ Below w.heap.size w w'

theorem own_any {w : World} {B c : Nat} {A : Option Addr} {l : List UInt8} (hr : BReads w B A l) (hl : l.length ≤ 140737488355328) :
    Calls Try.prog 90 #[.slice A l.length c] w (GivesB w l) := by
  go_enter Try.func90, Try.ntmps90
  go_wp2_with (at_builtin; refine Stop.of ?_)
  refine ⟨append_bytes (BOwns.nil w _) hr.src (by simpa using hl) (Nat.le_refl _) rfl rfl rfl rfl ?_⟩
  intro v' w1 hown hg _
  go_wp2
  go_ret
  exact ⟨v', rfl, hown, below_of_nil hg⟩

/-- The call answers the bytes l in the row that v owned, or in new memory. -/
def GivesOn (base : Nat) (w : World) (v : Value) (l : List UInt8) (e : Ending) (w' : World) : Prop := ∃ v', e = .returned v' ∧ BOwns w' base v' l ∧ w.grownBy w' v.ownBlock ∧ OwnFrom w v.ownBlock v'

theorem short_any {w : World} {base : Nat} {v : Value} {l : List UInt8} (n : Int) (hown : BOwns w base v l) (hbase : base ≤ w.heap.size)
    (h0 : -9223372036854775808 ≤ n) (h1 : n ≤ 9223372036854775807) (hl : l.length ≤ 140737488355200) :
    Calls Try.prog 92 #[v, .int .i64 n] w (GivesOn base w v (l ++ intF n)) := by
  have H0 := Lib.hid (fold_bits h0 h1)
  have HU := Lib.hid (foldI_lt h0 h1)
  go_enter Try.func92, Try.ntmps92
  go_wp2
  rw [H0.out]
  go_loopw [0, 5] (fun b u wr => ∃ (U : Nat) (pre : List UInt8), u = .int .u64 U ∧ Hid (U < 18446744073709551616) ∧ Hid (intF n = pre ++ shortF U) ∧ Hid (BOwns wr base b (l ++ pre)) ∧ Hid (w.grownBy wr v.ownBlock) ∧ Hid (OwnFrom w v.ownBlock b))
    (fun _ u _ => (intOf u).toNat)
  case atStart => exact ⟨foldI n, [], rfl, HU, Lib.hid rfl, Lib.hid (by simpa using hown), Lib.hid (World.grownBy.refl _ _), Lib.hid (.inl rfl)⟩
  case round =>
    obtain ⟨U, pre, rfl, hU, hpre, ho, hg, hf⟩ := hrel
    by_cases hlt : (128 : Int) ≤ (U : Int)
    · go_wp2_with (at_builtin; refine Stop.of ?_)
      have hpl : (l ++ pre).length ≤ 140737488355300 := by
        have e := congrArg List.length hpre.out
        have := intF_length h0 h1
        simp only [List.length_append] at e ⊢
        omega
      refine ⟨append_bytes (m := [UInt8.ofNat (U % 128 + 128)]) (ho.out.alloc _) (byte_src wr _ (by rw [or128, u8_int _ (by omega)])) (by simp only [List.length_cons, List.length_nil]; omega) (by have := hg.out.size; simp; omega) rfl rfl rfl rfl ?_⟩
      intro v' w1 ho1 hg1 hf1
      have HO := Lib.hid ho1
      have HG := Lib.hid (grown_step (grown_alloc hg.out _) hf.out hg1)
      have HF := Lib.hid (OwnFrom.step hf.out (by have := hg.out.size; simp; omega) hf1)
      clear ho1 hg1 hf1
      go_wp2
      go_roundw
      case rel => exact ⟨U / 128, pre ++ [UInt8.ofNat (U % 128 + 128)], by go_num, Lib.hid (by have := hU.out; omega), Lib.hid (by rw [hpre.out, shortF_big (u := U) (by omega)]; simp), Lib.hid (by simpa using HO.out), HG, HF⟩
      case measure => simp [intOf]; omega
    · go_wp2_with (at_builtin; refine Stop.of ?_)
      have hpl : (l ++ pre).length ≤ 140737488355300 := by
        have e := congrArg List.length hpre.out
        have := intF_length h0 h1
        simp only [List.length_append] at e ⊢
        omega
      refine ⟨append_bytes (m := [UInt8.ofNat U]) (ho.out.alloc _) (byte_src wr _ (by rw [u8_int _ (by omega)])) (by simp only [List.length_cons, List.length_nil]; omega) (by have := hg.out.size; simp; omega) rfl rfl rfl rfl ?_⟩
      intro v' w1 ho1 hg1 hf1
      have HO := Lib.hid ho1
      have HG := Lib.hid (grown_step (grown_alloc hg.out _) hf.out hg1)
      have HF := Lib.hid (OwnFrom.step hf.out (by have := hg.out.size; simp; omega) hf1)
      clear ho1 hg1 hf1
      go_wp2
      go_ret
      exact ⟨v', rfl, by rw [hpre.out, shortF_small (u := U) (by omega), ← List.append_assoc]; exact HO.out, HG.out, HF.out⟩

/-- A contract that gives bytes, ready for the walk: the value's shape and what was there. -/
theorem GivesB.out {w w' : World} {l : List UInt8} {e : Ending} (h : GivesB w l e w') : ∃ v', e = .returned v' ∧ BOwns w' w.heap.size v' l ∧ Below w.heap.size w w' := h
theorem GivesB.named {w w' : World} {l : List UInt8} {e : Ending} (h : GivesB w l e w') : ∃ (L : List UInt8) (A : Option Addr) (c : Nat), e = .returned (.slice A L.length c) ∧
    Hid (L = l) ∧ Hid (BOwns w' w.heap.size (.slice A L.length c) L) ∧ Hid (BReads w' w'.heap.size A L) ∧ Hid (Below w.heap.size w w') := by
  obtain ⟨v, rfl, ho, hb⟩ := h
  obtain ⟨A, c, rfl, _, hr⟩ := ho.slice
  exact ⟨l, A, c, rfl, rfl, ho, hr, hb⟩
theorem hid_below {w w1 w2 : World} (h1 : Hid (Below w.heap.size w w1)) (h2 : Hid (Below w1.heap.size w1 w2)) : Hid (Below w.heap.size w w2) := Below.trans h1.out (h2.out.mono h1.out.size)
theorem hid_reads {w w' : World} {A : Option Addr} {l : List UInt8} {B : Nat} (h1 : Hid (BReads w B A l)) (h2 : Hid (Below B w w')) : Hid (BReads w' B A l) := BReads.below h1.out h2.out
theorem hid_up {w w' : World} {A : Option Addr} {l : List UInt8} (h1 : Hid (BReads w w.heap.size A l)) (h2 : Hid (Below w.heap.size w w')) : Hid (BReads w' w'.heap.size A l) := BReads.more (BReads.below h1.out h2.out) h2.out.size
theorem GivesOn.out {base : Nat} {w w' : World} {v : Value} {l : List UInt8} {e : Ending} (h : GivesOn base w v l e w') : ∃ v', e = .returned v' ∧ BOwns w' base v' l ∧ w.grownBy w' v.ownBlock ∧ OwnFrom w v.ownBlock v' := h
theorem below_grown {w w1 w2 : World} {v : Value} {l : List UInt8} (hb : Below w.heap.size w w1) (ho : BOwns w1 w.heap.size v l) (hg : w1.grownBy w2 v.ownBlock) : Below w.heap.size w w2 :=
  hb.grown hg hb.size (fun k hk => (World.ownsRow.lt ho k hk).1)

theorem putInt_any {w : World} {B c : Nat} {A : Option Addr} {l : List UInt8} (n : Int) (hr : BReads w B A l)
    (h0 : -9223372036854775808 ≤ n) (h1 : n ≤ 9223372036854775807) (hl : l.length ≤ 140737488355200) :
    Calls Try.prog 58 #[.slice A l.length c, .int .i64 n] w (GivesB w (l ++ intF n)) := by
  go_enter Try.func58, Try.ntmps58
  go_wp2_with fail
  refine (own_any hr (by omega)).mono ?_
  rintro e w1 h
  obtain ⟨v1, rfl, ho, hb⟩ := h.out
  have HO := Lib.hid ho
  have HB := Lib.hid hb
  clear ho hb h
  go_wp2_with fail
  refine (short_any n HO.out HB.out.size h0 h1 hl).mono ?_
  rintro e w2 h
  obtain ⟨v2, rfl, ho2, hg2, _⟩ := h.out
  have HO2 := Lib.hid ho2
  have HB2 := Lib.hid (below_grown HB.out HO.out hg2)
  clear ho2 hg2 h
  go_wp2
  go_ret
  exact ⟨v2, rfl, HO2.out, HB2.out⟩

theorem putText_any {w : World} {B c : Nat} {A : Option Addr} {l : List UInt8} (s : ByteArray) (hr : BReads w B A l)
    (hs : s.size ≤ 140737488355328) (hl : l.length + s.size ≤ 140737488355200) :
    Calls Try.prog 57 #[.slice A l.length c, .string s] w (GivesB w (l ++ intF s.size ++ s.data.toList)) := by
  go_enter Try.func57, Try.ntmps57
  go_wp2_with fail
  refine (putInt_any (s.size : Int) hr (by omega) (by omega) (by omega)).mono ?_
  rintro e w1 h
  obtain ⟨v1, rfl, ho, hb⟩ := h.out
  have HO := Lib.hid ho
  have HB := Lib.hid hb
  clear ho hb h
  go_wp2_with (at_builtin; refine Stop.of ?_)
  have hil := intF_length (n := (s.size : Int)) (by omega) (by omega)
  have hsl : s.data.toList.length = s.size := by rw [Array.length_toList]; rfl
  refine ⟨append_bytes HO.out (str_src s) (by rw [List.length_append, hsl]; omega) HB.out.size rfl rfl rfl rfl ?_⟩
  intro v' w2 ho2 hg2 _
  have HO2 := Lib.hid ho2
  have HB2 := Lib.hid (below_grown HB.out HO.out hg2)
  clear ho2 hg2 hsl
  go_wp2
  go_ret
  exact ⟨v', rfl, HO2.out, HB2.out⟩

theorem putBytes_any {w : World} {B B' c c' : Nat} {A A' : Option Addr} {l p : List UInt8} (hr : BReads w B A l) (hp : BReads w B' A' p) (hB : B' ≤ w.heap.size)
    (hl : l.length + p.length ≤ 140737488355200) :
    Calls Try.prog 59 #[.slice A l.length c, .slice A' p.length c'] w (GivesB w (l ++ intF p.length ++ p)) := by
  have HP := Lib.hid (hp.more hB)
  clear hp
  go_enter Try.func59, Try.ntmps59
  go_wp2_with fail
  refine (putInt_any (p.length : Int) hr (by omega) (by omega) (by omega)).mono ?_
  rintro e w1 h
  obtain ⟨v1, rfl, ho, hb⟩ := h.out
  have HO := Lib.hid ho
  have HB := Lib.hid hb
  clear ho hb h
  go_wp2_with (at_builtin; refine Stop.of ?_)
  have hil := intF_length (n := (p.length : Int)) (by omega) (by omega)
  refine ⟨append_bytes HO.out (HP.out.below HB.out).src (by rw [List.length_append]; omega) HB.out.size rfl rfl rfl rfl ?_⟩
  intro v' w2 ho2 hg2 _
  have HO2 := Lib.hid ho2
  have HB2 := Lib.hid (below_grown HB.out HO.out hg2)
  clear ho2 hg2
  go_wp2
  go_ret
  exact ⟨v', rfl, HO2.out, HB2.out⟩
end Go.Proofs.Ytnnladfndmdapaa
