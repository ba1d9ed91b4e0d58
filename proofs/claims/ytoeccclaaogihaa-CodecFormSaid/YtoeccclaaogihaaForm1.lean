/- CodecForm: the walk. -/
import Derived.Test.YtoeccclaaogihaaPlainF
import Derived.Test.YtoeccclaaogihaaPutN
import Derived.Test.YtoeccclaaogihaaRdr7
import Derived.Test.YtoeccclaaogihaaFixed
import Derived.Deep.RegionHeld3
import Derived.Deep.QuietTactic
import Derived.BigQuiet
namespace Go.Proofs.Ytoeccclaaogihaa
open Go.RowKit

theorem reads_take {w : World} {B k : Nat} {A : Option Addr} {l : List UInt8} (h : BReads w B A l) : BReads w B A (l.take k) := by
  refine ⟨by rw [bys_length, Nat.mul_one], fun hp => ?_⟩
  rw [List.length_take] at hp
  obtain ⟨b, off, e, hb, hc⟩ := h.2 (by omega)
  refine ⟨b, off, e, hb, fun j u hu => hc j u ?_⟩
  have hj : j < (l.take k).length := by have := (List.getElem?_eq_some_iff.1 hu).1; rwa [bys_length] at this
  rw [← hu, bys_get, bys_get, List.getElem?_take, if_pos (by rw [List.length_take] at hj; omega)]
theorem faultQ {w : World} {g k n : Nat} {l : List UInt8} {f : Int} (h : RdIs w g ⟨l, k, f⟩) : Calls Try.prog 41 #[.pointer (some ⟨g, 0, none⟩)] (w.drewN n) fun e w' => e = .returned (.int .i64 f) ∧ w' = w.drewN n :=
  (fault_any (h.below (below_drewN (Below.refl _ _) n))).mono fun e w' hh => ⟨hh.1, hh.2.symm⟩
set_option maxRecDepth 100000 in
set_option maxHeartbeats 3200000 in
theorem codecForm_walk {w : World} {A : Option Addr} {c : Nat} {l : List UInt8} (hr : BReads w w.heap.size A l) (hcap : l.length ≤ c) (hf : l.length ≤ reachBytes) :
    Calls Try.prog 15 #[.slice A l.length c] w fun e w' => e = .returned (.bool true) ∧ Below w.heap.size w w' := by
  have hl : l.length ≤ 140737488355200 := Nat.le_trans hf (by decide)
  have HR := Lib.hid hr
  clear hr hf
  go_enter Try.func15, Try.ntmps15
  go_wp2_with fail
  refine codecFixed_any.mono ?_
  rintro e w1 ⟨rfl, hb⟩
  have B1 := Lib.hid hb
  clear hb
  go_wp2_with fail
  refine (open_any (HR.out.below B1.out) (by omega)).mono ?_
  rintro e w2 h
  obtain ⟨g, rfl, hgw, hr, hb⟩ := h.out
  have R2 := Lib.hid hr
  have B2 := Lib.hid (B1.out.trans (hb.mono B1.out.size))
  have hg : w.heap.size ≤ g := by have := B1.out.size; omega
  clear h hr hb B1 hgw
  go_wp2_with fail
  have hrd := rdInt_any R2.out (-9223372036854775808) 9223372036854775807
  cases hn : numberF (-9223372036854775808) 9223372036854775807 l with
  | error m =>
    have hmz : (m == 0) = false := by simpa using numberF_err hn
    have hI : Rd.int ⟨l, 0, 0⟩ (-9223372036854775808) 9223372036854775807 = (0, ⟨l, 0, m⟩) := by show Rd.step ⟨l, 0, 0⟩ 0 (numberF (-9223372036854775808) 9223372036854775807 l) = _; rw [hn]; rfl
    rw [hI] at hrd
    clear hI hn
    refine hrd.mono ?_
    rintro e w3 ⟨ha, hr, hk⟩
    obtain rfl : e = .returned (.int .i64 0) := ha
    have R3 := Lib.hid hr
    have B3 := Lib.hid (B2.out.trans (hk.belowAt B2.out.size hg))
    clear hr hk hrd B2 R2
    go_wp2_with fail
    refine (fault_any R3.out).mono ?_
    rintro e w4 ⟨rfl, rfl⟩
    have B1 := B3
    clear B3 R3 hg
    go_wp2_with fail
    refine (open_any (HR.out.below B1.out) (by omega)).mono ?_
    rintro e w2 h
    obtain ⟨g, rfl, hgw, hr, hb⟩ := h.out
    have R2 := Lib.hid hr
    have B2 := Lib.hid (B1.out.trans (hb.mono B1.out.size))
    have hg : w.heap.size ≤ g := by have := B1.out.size; omega
    clear h hr hb B1 hgw
    go_wp2_with fail
    have hrd := rdBytes_any R2.out l.length
    cases hn : blockF l.length l with
    | error m =>
      have hmz : (m == 0) = false := by simpa using blockF_err hn
      have hI : Rd.bytes ⟨l, 0, 0⟩ l.length = ([], ⟨l, 0, m⟩) := by show Rd.step ⟨l, 0, 0⟩ [] (blockF l.length l) = _; rw [hn]; rfl
      rw [hI] at hrd
      clear hI hn
      refine hrd.mono ?_
      rintro e w3 ⟨ha, hr, hk⟩
      obtain ⟨v, rfl, ho⟩ : ∃ v, e = .returned v ∧ BOwns w3 w2.heap.size v [] := ha
      obtain ⟨A3, c3, rfl, _, _⟩ := ho.slice
      have R3 := Lib.hid hr
      have B3 := Lib.hid (B2.out.trans (hk.belowAt B2.out.size hg))
      clear hr hk hrd B2 R2
      go_wp2_with fail
      refine (fault_any R3.out).mono ?_
      rintro e w4 ⟨rfl, rfl⟩
      have B1 := B3
      clear B3 R3 hg
      go_wp2_with fail
      refine (open_any (HR.out.below B1.out) (by omega)).mono ?_
      rintro e w2 h
      obtain ⟨g, rfl, hgw, hr, hb⟩ := h.out
      have R2 := Lib.hid hr
      have B2 := Lib.hid (B1.out.trans (hb.mono B1.out.size))
      have hg : w.heap.size ≤ g := by have := B1.out.size; omega
      clear h hr hb B1 hgw
      go_wp2_with fail
      have hrd := rdTake32_any R2.out
      cases hn : takeF 4 l with
      | error m =>
        obtain rfl : m = 20 := by unfold takeF at hn; split at hn; (injection hn with hn; exact hn.symm); cases hn
        have hI : Rd.take ⟨l, 0, 0⟩ 4 = (0, ⟨l, 0, 20⟩) := by show Rd.step ⟨l, 0, 0⟩ 0 (takeF 4 l) = _; rw [hn]; rfl
        rw [hI] at hrd
        clear hI hn
        refine hrd.mono ?_
        rintro e w3 ⟨ha, hr, hk⟩
        obtain rfl : e = .returned (.int .u32 (0 : Nat)) := ha
        have R9 := Lib.hid hr
        have BD := Lib.hid (B2.out.trans (hk.belowAt B2.out.size hg))
        have H0 := Lib.hid (show Below w.heap.size w w3.drew ∧ RdIs w3.drew g ⟨l, 0, 20⟩ from ⟨(B2.out.trans (hk.belowAt B2.out.size hg)).drew, hr.below (below_drewN (Below.refl _ _) 1)⟩)
        clear hr hk hrd B2 R2
        go_wp2
        go_quiet (first | (go_at_call 41; refine Calls.quiet_of_same (faultQ R9.out)))
        go_wp2
        go_ret
        exact ⟨rfl, below_drewN (BD.out) _⟩
      | ok x =>
        obtain ⟨n, k⟩ := x
        have hlt := takeF_lt hn
        obtain ⟨P, hP⟩ : ∃ P, P = l.take 4 := ⟨_, rfl⟩
        have hPl : P.length = 4 := by rw [hP, List.length_take]; omega
        have hbv : beN 4 n = P := by
          unfold takeF at hn
          rw [if_neg (by omega)] at hn
          injection hn with hn
          injection hn with hn _
          rw [← hn, ← hP]
          exact beN_beVal 4 P hPl
        have hI : Rd.take ⟨l, 0, 0⟩ 4 = (n, ⟨l, k, 0⟩) := by show Rd.step ⟨l, 0, 0⟩ 0 (takeF 4 l) = _; rw [hn]; simp [Rd.step]
        rw [hI] at hrd
        have HBV := Lib.hid hbv
        have HP := Lib.hid hP
        have HPL := Lib.hid hPl
        have HLT := Lib.hid hlt.1
        have h4 : 4 ≤ c := by omega
        have h4i : (4 : Int) ≤ (c : Int) := by omega
        have h4l : 4 ≤ l.length := by omega
        clear hI hn hbv hP hPl hlt
        refine hrd.mono ?_
        rintro e w3 ⟨ha, hr, hk⟩
        obtain rfl : e = .returned (.int .u32 n) := ha
        have H0 := Lib.hid (show Below w.heap.size w w3.drew ∧ RdIs w3.drew g ⟨l, k, 0⟩ from ⟨(B2.out.trans (hk.belowAt B2.out.size hg)).drew, hr.below (below_drewN (Below.refl _ _) 1)⟩)
        clear hr hk hrd B2 R2
        go_wp2
        go_region_held3 (fun w' => Hid (Below w.heap.size w w')) (first | assumption | (exact Lib.hid H0.out.1) | (exact HQ)) (first | (go_at_call 41; refine (fault_any (r := ⟨l, k, 0⟩) H0.out.2).mono ?_; rintro e w4 ⟨he, rfl⟩; replace he : e = .returned (.int .i64 0) := he; subst he) | (go_at_call 29; refine (put32_any (A := none) (c := 0) (l := []) (B := 0) n Reads.none_ HLT.out (by simp)).mono ?_; rintro e w5 h; obtain ⟨L5, A5, c5, rfl, E5, _, R5, B5⟩ := h.named; have hL5 : L5 = P := (by rw [E5.out]; exact HBV.out); rw [hL5] at R5 ⊢; have HQ := Lib.hid (H0.out.1.trans (B5.out.mono H0.out.1.size)); clear h B5 E5 hL5; rw [HPL.out]) | (go_at_call 19; have RT := reads_take (k := 4) (HR.out.below HQ.out); rw [← HP.out] at RT; have heq := equal_any (c := c5) (c' := c) R5.out RT (by rw [HPL.out]; decide); rw [HPL.out] at heq; refine heq.mono ?_; rintro e w8 ⟨rfl, m2, hw8⟩; rw [show decide (P = P) = true from by simp]; have HQ := Lib.hid (show Below w.heap.size w w8 from by rw [hw8]; exact below_drewN HQ.out m2); clear hw8))
        go_wp2
        go_ret
        exact ⟨rfl, HQ.out⟩
    | ok x =>
      obtain ⟨p, k⟩ := x
      have hb1 := blockF_len hn
      have hbk := blockF_back hn
      have hI : Rd.bytes ⟨l, 0, 0⟩ l.length = (p, ⟨l, k, 0⟩) := by show Rd.step ⟨l, 0, 0⟩ [] (blockF l.length l) = _; rw [hn]; simp [Rd.step]
      rw [hI] at hrd
      clear hI hn
      obtain ⟨P, hP⟩ : ∃ P, P = l.take k := ⟨_, rfl⟩
      have hPl : P.length = k := by rw [hP, List.length_take]; omega
      have HBK := Lib.hid hbk
      have HP := Lib.hid hP
      have hkl : P.length ≤ l.length := by omega
      subst hPl
      have HB1 := Lib.hid hb1
      clear hbk hP hb1
      refine hrd.mono ?_
      rintro e w3 ⟨ha, hr, hk⟩
      obtain ⟨v, rfl, ho⟩ : ∃ v, e = .returned v ∧ BOwns w3 w2.heap.size v p := ha
      obtain ⟨A3, c3, rfl, _, hr3⟩ := ho.slice
      have Q3 := Lib.hid hr3
      clear ho hr3
      have R3 := Lib.hid hr
      have B3 := Lib.hid (B2.out.trans (hk.belowAt B2.out.size hg))
      clear hr hk hrd B2 R2
      go_wp2_with fail
      refine (fault_any R3.out).mono ?_
      rintro e w4 ⟨rfl, rfl⟩
      go_wp2_with fail
      refine (putBytes_any (A := none) (c := 0) (l := []) (B := 0) (p := p) Reads.none_ Q3.out (Nat.le_refl _) (by have := HB1.out; simp only [List.length_nil]; omega)).mono ?_
      rintro e w5 h
      obtain ⟨L5, A5, c5, rfl, E5, _, R5, B5⟩ := h.named
      have R3b := Lib.hid (R3.out.below B5.out)
      have B6 := Lib.hid (B3.out.trans (B5.out.mono B3.out.size))
      have hL5 : L5 = P := by rw [E5.out, HP.out]; exact HBK.out
      rw [hL5] at R5 ⊢
      clear h B5 B3 R3 E5 HB1 hL5
      go_wp2_with fail
      refine (left_any R3b.out).mono ?_
      rintro e w6 ⟨rfl, m, rfl⟩
      unfold Rd.left
      simp only
      have B7 := Lib.hid (below_drewN B6.out m)
      have R7 := Lib.hid (show BReads (w5.drewN m) w5.heap.size A5 P from R5.out)
      obtain ⟨w7, hw7⟩ : ∃ x, x = w5.drewN m := ⟨_, rfl⟩
      rw [← hw7] at B7 R7 ⊢
      clear hw7 R5 B6 R3b
      have e7 : ((l.length : Int) - ((l.length : Int) - (P.length : Int))) = (P.length : Int) := by omega
      go_wp2_with fail
      have RT := reads_take (k := P.length) (HR.out.below B7.out)
      have eP : l.take P.length = P := HP.out.symm
      rw [eP] at RT
      refine (equal_any R7.out RT (by omega)).mono ?_
      rintro e w8 ⟨rfl, m2, rfl⟩
      rw [show decide (P = P) = true from by simp]
      have B1 := Lib.hid (below_drewN B7.out m2)
      obtain ⟨w8, hw8⟩ : ∃ x, x = w7.drewN m2 := ⟨_, rfl⟩
      rw [← hw8] at B1 ⊢
      clear hw8 B7 R7 RT eP e7 HBK HP hg
      go_wp2_with fail
      refine (open_any (HR.out.below B1.out) (by omega)).mono ?_
      rintro e w2 h
      obtain ⟨g, rfl, hgw, hr, hb⟩ := h.out
      have R2 := Lib.hid hr
      have B2 := Lib.hid (B1.out.trans (hb.mono B1.out.size))
      have hg : w.heap.size ≤ g := by have := B1.out.size; omega
      clear h hr hb B1 hgw
      go_wp2_with fail
      have hrd := rdTake32_any R2.out
      cases hn : takeF 4 l with
      | error m =>
        obtain rfl : m = 20 := by unfold takeF at hn; split at hn; (injection hn with hn; exact hn.symm); cases hn
        have hI : Rd.take ⟨l, 0, 0⟩ 4 = (0, ⟨l, 0, 20⟩) := by show Rd.step ⟨l, 0, 0⟩ 0 (takeF 4 l) = _; rw [hn]; rfl
        rw [hI] at hrd
        clear hI hn
        refine hrd.mono ?_
        rintro e w3 ⟨ha, hr, hk⟩
        obtain rfl : e = .returned (.int .u32 (0 : Nat)) := ha
        have R9 := Lib.hid hr
        have BD := Lib.hid (B2.out.trans (hk.belowAt B2.out.size hg))
        have H0 := Lib.hid (show Below w.heap.size w w3.drew ∧ RdIs w3.drew g ⟨l, 0, 20⟩ from ⟨(B2.out.trans (hk.belowAt B2.out.size hg)).drew, hr.below (below_drewN (Below.refl _ _) 1)⟩)
        clear hr hk hrd B2 R2
        go_wp2
        go_quiet (first | (go_at_call 41; refine Calls.quiet_of_same (faultQ R9.out)))
        go_wp2
        go_ret
        exact ⟨rfl, below_drewN (BD.out) _⟩
      | ok x =>
        obtain ⟨n, k⟩ := x
        have hlt := takeF_lt hn
        obtain ⟨P, hP⟩ : ∃ P, P = l.take 4 := ⟨_, rfl⟩
        have hPl : P.length = 4 := by rw [hP, List.length_take]; omega
        have hbv : beN 4 n = P := by
          unfold takeF at hn
          rw [if_neg (by omega)] at hn
          injection hn with hn
          injection hn with hn _
          rw [← hn, ← hP]
          exact beN_beVal 4 P hPl
        have hI : Rd.take ⟨l, 0, 0⟩ 4 = (n, ⟨l, k, 0⟩) := by show Rd.step ⟨l, 0, 0⟩ 0 (takeF 4 l) = _; rw [hn]; simp [Rd.step]
        rw [hI] at hrd
        have HBV := Lib.hid hbv
        have HP := Lib.hid hP
        have HPL := Lib.hid hPl
        have HLT := Lib.hid hlt.1
        have h4 : 4 ≤ c := by omega
        have h4i : (4 : Int) ≤ (c : Int) := by omega
        have h4l : 4 ≤ l.length := by omega
        clear hI hn hbv hP hPl hlt
        refine hrd.mono ?_
        rintro e w3 ⟨ha, hr, hk⟩
        obtain rfl : e = .returned (.int .u32 n) := ha
        have H0 := Lib.hid (show Below w.heap.size w w3.drew ∧ RdIs w3.drew g ⟨l, k, 0⟩ from ⟨(B2.out.trans (hk.belowAt B2.out.size hg)).drew, hr.below (below_drewN (Below.refl _ _) 1)⟩)
        clear hr hk hrd B2 R2
        go_wp2
        go_region_held3 (fun w' => Hid (Below w.heap.size w w')) (first | assumption | (exact Lib.hid H0.out.1) | (exact HQ)) (first | (go_at_call 41; refine (fault_any (r := ⟨l, k, 0⟩) H0.out.2).mono ?_; rintro e w4 ⟨he, rfl⟩; replace he : e = .returned (.int .i64 0) := he; subst he) | (go_at_call 29; refine (put32_any (A := none) (c := 0) (l := []) (B := 0) n Reads.none_ HLT.out (by simp)).mono ?_; rintro e w5 h; obtain ⟨L5, A5, c5, rfl, E5, _, R5, B5⟩ := h.named; have hL5 : L5 = P := (by rw [E5.out]; exact HBV.out); rw [hL5] at R5 ⊢; have HQ := Lib.hid (H0.out.1.trans (B5.out.mono H0.out.1.size)); clear h B5 E5 hL5; rw [HPL.out]) | (go_at_call 19; have RT := reads_take (k := 4) (HR.out.below HQ.out); rw [← HP.out] at RT; have heq := equal_any (c := c5) (c' := c) R5.out RT (by rw [HPL.out]; decide); rw [HPL.out] at heq; refine heq.mono ?_; rintro e w8 ⟨rfl, m2, hw8⟩; rw [show decide (P = P) = true from by simp]; have HQ := Lib.hid (show Below w.heap.size w w8 from by rw [hw8]; exact below_drewN HQ.out m2); clear hw8))
        go_wp2
        go_ret
        exact ⟨rfl, HQ.out⟩
  | ok x =>
    obtain ⟨n, k⟩ := x
    have hb1 := numberF_ok hn
    have hbk := numberF_back hn
    have hI : Rd.int ⟨l, 0, 0⟩ (-9223372036854775808) 9223372036854775807 = (n, ⟨l, k, 0⟩) := by show Rd.step ⟨l, 0, 0⟩ 0 (numberF (-9223372036854775808) 9223372036854775807 l) = _; rw [hn]; simp [Rd.step]
    rw [hI] at hrd
    clear hI hn
    obtain ⟨P, hP⟩ : ∃ P, P = l.take k := ⟨_, rfl⟩
    have hPl : P.length = k := by rw [hP, List.length_take]; omega
    have HBK := Lib.hid hbk
    have HP := Lib.hid hP
    have hkl : P.length ≤ l.length := by omega
    subst hPl
    have HB1 := Lib.hid hb1
    clear hbk hP hb1
    refine hrd.mono ?_
    rintro e w3 ⟨ha, hr, hk⟩
    obtain rfl : e = .returned (.int .i64 n) := ha
    have R3 := Lib.hid hr
    have B3 := Lib.hid (B2.out.trans (hk.belowAt B2.out.size hg))
    clear hr hk hrd B2 R2
    go_wp2_with fail
    refine (fault_any R3.out).mono ?_
    rintro e w4 ⟨rfl, rfl⟩
    go_wp2_with fail
    refine (putInt_any (A := none) (c := 0) (l := []) (B := 0) n Reads.none_ HB1.out.1 HB1.out.2.1 (by simp)).mono ?_
    rintro e w5 h
    obtain ⟨L5, A5, c5, rfl, E5, _, R5, B5⟩ := h.named
    have R3b := Lib.hid (R3.out.below B5.out)
    have B6 := Lib.hid (B3.out.trans (B5.out.mono B3.out.size))
    have hL5 : L5 = P := by rw [E5.out, HP.out]; exact HBK.out
    rw [hL5] at R5 ⊢
    clear h B5 B3 R3 E5 HB1 hL5
    go_wp2_with fail
    refine (left_any R3b.out).mono ?_
    rintro e w6 ⟨rfl, m, rfl⟩
    unfold Rd.left
    simp only
    have B7 := Lib.hid (below_drewN B6.out m)
    have R7 := Lib.hid (show BReads (w5.drewN m) w5.heap.size A5 P from R5.out)
    obtain ⟨w7, hw7⟩ : ∃ x, x = w5.drewN m := ⟨_, rfl⟩
    rw [← hw7] at B7 R7 ⊢
    clear hw7 R5 B6 R3b
    have e7 : ((l.length : Int) - ((l.length : Int) - (P.length : Int))) = (P.length : Int) := by omega
    go_wp2_with fail
    have RT := reads_take (k := P.length) (HR.out.below B7.out)
    have eP : l.take P.length = P := HP.out.symm
    rw [eP] at RT
    refine (equal_any R7.out RT (by omega)).mono ?_
    rintro e w8 ⟨rfl, m2, rfl⟩
    rw [show decide (P = P) = true from by simp]
    have B1 := Lib.hid (below_drewN B7.out m2)
    obtain ⟨w8, hw8⟩ : ∃ x, x = w7.drewN m2 := ⟨_, rfl⟩
    rw [← hw8] at B1 ⊢
    clear hw8 B7 R7 RT eP e7 HBK HP hg
    go_wp2_with fail
    refine (open_any (HR.out.below B1.out) (by omega)).mono ?_
    rintro e w2 h
    obtain ⟨g, rfl, hgw, hr, hb⟩ := h.out
    have R2 := Lib.hid hr
    have B2 := Lib.hid (B1.out.trans (hb.mono B1.out.size))
    have hg : w.heap.size ≤ g := by have := B1.out.size; omega
    clear h hr hb B1 hgw
    go_wp2_with fail
    have hrd := rdBytes_any R2.out l.length
    cases hn : blockF l.length l with
    | error m =>
      have hmz : (m == 0) = false := by simpa using blockF_err hn
      have hI : Rd.bytes ⟨l, 0, 0⟩ l.length = ([], ⟨l, 0, m⟩) := by show Rd.step ⟨l, 0, 0⟩ [] (blockF l.length l) = _; rw [hn]; rfl
      rw [hI] at hrd
      clear hI hn
      refine hrd.mono ?_
      rintro e w3 ⟨ha, hr, hk⟩
      obtain ⟨v, rfl, ho⟩ : ∃ v, e = .returned v ∧ BOwns w3 w2.heap.size v [] := ha
      obtain ⟨A3, c3, rfl, _, _⟩ := ho.slice
      have R3 := Lib.hid hr
      have B3 := Lib.hid (B2.out.trans (hk.belowAt B2.out.size hg))
      clear hr hk hrd B2 R2
      go_wp2_with fail
      refine (fault_any R3.out).mono ?_
      rintro e w4 ⟨rfl, rfl⟩
      have B1 := B3
      clear B3 R3 hg
      go_wp2_with fail
      refine (open_any (HR.out.below B1.out) (by omega)).mono ?_
      rintro e w2 h
      obtain ⟨g, rfl, hgw, hr, hb⟩ := h.out
      have R2 := Lib.hid hr
      have B2 := Lib.hid (B1.out.trans (hb.mono B1.out.size))
      have hg : w.heap.size ≤ g := by have := B1.out.size; omega
      clear h hr hb B1 hgw
      go_wp2_with fail
      have hrd := rdTake32_any R2.out
      cases hn : takeF 4 l with
      | error m =>
        obtain rfl : m = 20 := by unfold takeF at hn; split at hn; (injection hn with hn; exact hn.symm); cases hn
        have hI : Rd.take ⟨l, 0, 0⟩ 4 = (0, ⟨l, 0, 20⟩) := by show Rd.step ⟨l, 0, 0⟩ 0 (takeF 4 l) = _; rw [hn]; rfl
        rw [hI] at hrd
        clear hI hn
        refine hrd.mono ?_
        rintro e w3 ⟨ha, hr, hk⟩
        obtain rfl : e = .returned (.int .u32 (0 : Nat)) := ha
        have R9 := Lib.hid hr
        have BD := Lib.hid (B2.out.trans (hk.belowAt B2.out.size hg))
        have H0 := Lib.hid (show Below w.heap.size w w3.drew ∧ RdIs w3.drew g ⟨l, 0, 20⟩ from ⟨(B2.out.trans (hk.belowAt B2.out.size hg)).drew, hr.below (below_drewN (Below.refl _ _) 1)⟩)
        clear hr hk hrd B2 R2
        go_wp2
        go_quiet (first | (go_at_call 41; refine Calls.quiet_of_same (faultQ R9.out)))
        go_wp2
        go_ret
        exact ⟨rfl, below_drewN (BD.out) _⟩
      | ok x =>
        obtain ⟨n, k⟩ := x
        have hlt := takeF_lt hn
        obtain ⟨P, hP⟩ : ∃ P, P = l.take 4 := ⟨_, rfl⟩
        have hPl : P.length = 4 := by rw [hP, List.length_take]; omega
        have hbv : beN 4 n = P := by
          unfold takeF at hn
          rw [if_neg (by omega)] at hn
          injection hn with hn
          injection hn with hn _
          rw [← hn, ← hP]
          exact beN_beVal 4 P hPl
        have hI : Rd.take ⟨l, 0, 0⟩ 4 = (n, ⟨l, k, 0⟩) := by show Rd.step ⟨l, 0, 0⟩ 0 (takeF 4 l) = _; rw [hn]; simp [Rd.step]
        rw [hI] at hrd
        have HBV := Lib.hid hbv
        have HP := Lib.hid hP
        have HPL := Lib.hid hPl
        have HLT := Lib.hid hlt.1
        have h4 : 4 ≤ c := by omega
        have h4i : (4 : Int) ≤ (c : Int) := by omega
        have h4l : 4 ≤ l.length := by omega
        clear hI hn hbv hP hPl hlt
        refine hrd.mono ?_
        rintro e w3 ⟨ha, hr, hk⟩
        obtain rfl : e = .returned (.int .u32 n) := ha
        have H0 := Lib.hid (show Below w.heap.size w w3.drew ∧ RdIs w3.drew g ⟨l, k, 0⟩ from ⟨(B2.out.trans (hk.belowAt B2.out.size hg)).drew, hr.below (below_drewN (Below.refl _ _) 1)⟩)
        clear hr hk hrd B2 R2
        go_wp2
        go_region_held3 (fun w' => Hid (Below w.heap.size w w')) (first | assumption | (exact Lib.hid H0.out.1) | (exact HQ)) (first | (go_at_call 41; refine (fault_any (r := ⟨l, k, 0⟩) H0.out.2).mono ?_; rintro e w4 ⟨he, rfl⟩; replace he : e = .returned (.int .i64 0) := he; subst he) | (go_at_call 29; refine (put32_any (A := none) (c := 0) (l := []) (B := 0) n Reads.none_ HLT.out (by simp)).mono ?_; rintro e w5 h; obtain ⟨L5, A5, c5, rfl, E5, _, R5, B5⟩ := h.named; have hL5 : L5 = P := (by rw [E5.out]; exact HBV.out); rw [hL5] at R5 ⊢; have HQ := Lib.hid (H0.out.1.trans (B5.out.mono H0.out.1.size)); clear h B5 E5 hL5; rw [HPL.out]) | (go_at_call 19; have RT := reads_take (k := 4) (HR.out.below HQ.out); rw [← HP.out] at RT; have heq := equal_any (c := c5) (c' := c) R5.out RT (by rw [HPL.out]; decide); rw [HPL.out] at heq; refine heq.mono ?_; rintro e w8 ⟨rfl, m2, hw8⟩; rw [show decide (P = P) = true from by simp]; have HQ := Lib.hid (show Below w.heap.size w w8 from by rw [hw8]; exact below_drewN HQ.out m2); clear hw8))
        go_wp2
        go_ret
        exact ⟨rfl, HQ.out⟩
    | ok x =>
      obtain ⟨p, k⟩ := x
      have hb1 := blockF_len hn
      have hbk := blockF_back hn
      have hI : Rd.bytes ⟨l, 0, 0⟩ l.length = (p, ⟨l, k, 0⟩) := by show Rd.step ⟨l, 0, 0⟩ [] (blockF l.length l) = _; rw [hn]; simp [Rd.step]
      rw [hI] at hrd
      clear hI hn
      obtain ⟨P, hP⟩ : ∃ P, P = l.take k := ⟨_, rfl⟩
      have hPl : P.length = k := by rw [hP, List.length_take]; omega
      have HBK := Lib.hid hbk
      have HP := Lib.hid hP
      have hkl : P.length ≤ l.length := by omega
      subst hPl
      have HB1 := Lib.hid hb1
      clear hbk hP hb1
      refine hrd.mono ?_
      rintro e w3 ⟨ha, hr, hk⟩
      obtain ⟨v, rfl, ho⟩ : ∃ v, e = .returned v ∧ BOwns w3 w2.heap.size v p := ha
      obtain ⟨A3, c3, rfl, _, hr3⟩ := ho.slice
      have Q3 := Lib.hid hr3
      clear ho hr3
      have R3 := Lib.hid hr
      have B3 := Lib.hid (B2.out.trans (hk.belowAt B2.out.size hg))
      clear hr hk hrd B2 R2
      go_wp2_with fail
      refine (fault_any R3.out).mono ?_
      rintro e w4 ⟨rfl, rfl⟩
      go_wp2_with fail
      refine (putBytes_any (A := none) (c := 0) (l := []) (B := 0) (p := p) Reads.none_ Q3.out (Nat.le_refl _) (by have := HB1.out; simp only [List.length_nil]; omega)).mono ?_
      rintro e w5 h
      obtain ⟨L5, A5, c5, rfl, E5, _, R5, B5⟩ := h.named
      have R3b := Lib.hid (R3.out.below B5.out)
      have B6 := Lib.hid (B3.out.trans (B5.out.mono B3.out.size))
      have hL5 : L5 = P := by rw [E5.out, HP.out]; exact HBK.out
      rw [hL5] at R5 ⊢
      clear h B5 B3 R3 E5 HB1 hL5
      go_wp2_with fail
      refine (left_any R3b.out).mono ?_
      rintro e w6 ⟨rfl, m, rfl⟩
      unfold Rd.left
      simp only
      have B7 := Lib.hid (below_drewN B6.out m)
      have R7 := Lib.hid (show BReads (w5.drewN m) w5.heap.size A5 P from R5.out)
      obtain ⟨w7, hw7⟩ : ∃ x, x = w5.drewN m := ⟨_, rfl⟩
      rw [← hw7] at B7 R7 ⊢
      clear hw7 R5 B6 R3b
      have e7 : ((l.length : Int) - ((l.length : Int) - (P.length : Int))) = (P.length : Int) := by omega
      go_wp2_with fail
      have RT := reads_take (k := P.length) (HR.out.below B7.out)
      have eP : l.take P.length = P := HP.out.symm
      rw [eP] at RT
      refine (equal_any R7.out RT (by omega)).mono ?_
      rintro e w8 ⟨rfl, m2, rfl⟩
      rw [show decide (P = P) = true from by simp]
      have B1 := Lib.hid (below_drewN B7.out m2)
      obtain ⟨w8, hw8⟩ : ∃ x, x = w7.drewN m2 := ⟨_, rfl⟩
      rw [← hw8] at B1 ⊢
      clear hw8 B7 R7 RT eP e7 HBK HP hg
      go_wp2_with fail
      refine (open_any (HR.out.below B1.out) (by omega)).mono ?_
      rintro e w2 h
      obtain ⟨g, rfl, hgw, hr, hb⟩ := h.out
      have R2 := Lib.hid hr
      have B2 := Lib.hid (B1.out.trans (hb.mono B1.out.size))
      have hg : w.heap.size ≤ g := by have := B1.out.size; omega
      clear h hr hb B1 hgw
      go_wp2_with fail
      have hrd := rdTake32_any R2.out
      cases hn : takeF 4 l with
      | error m =>
        obtain rfl : m = 20 := by unfold takeF at hn; split at hn; (injection hn with hn; exact hn.symm); cases hn
        have hI : Rd.take ⟨l, 0, 0⟩ 4 = (0, ⟨l, 0, 20⟩) := by show Rd.step ⟨l, 0, 0⟩ 0 (takeF 4 l) = _; rw [hn]; rfl
        rw [hI] at hrd
        clear hI hn
        refine hrd.mono ?_
        rintro e w3 ⟨ha, hr, hk⟩
        obtain rfl : e = .returned (.int .u32 (0 : Nat)) := ha
        have R9 := Lib.hid hr
        have BD := Lib.hid (B2.out.trans (hk.belowAt B2.out.size hg))
        have H0 := Lib.hid (show Below w.heap.size w w3.drew ∧ RdIs w3.drew g ⟨l, 0, 20⟩ from ⟨(B2.out.trans (hk.belowAt B2.out.size hg)).drew, hr.below (below_drewN (Below.refl _ _) 1)⟩)
        clear hr hk hrd B2 R2
        go_wp2
        go_quiet (first | (go_at_call 41; refine Calls.quiet_of_same (faultQ R9.out)))
        go_wp2
        go_ret
        exact ⟨rfl, below_drewN (BD.out) _⟩
      | ok x =>
        obtain ⟨n, k⟩ := x
        have hlt := takeF_lt hn
        obtain ⟨P, hP⟩ : ∃ P, P = l.take 4 := ⟨_, rfl⟩
        have hPl : P.length = 4 := by rw [hP, List.length_take]; omega
        have hbv : beN 4 n = P := by
          unfold takeF at hn
          rw [if_neg (by omega)] at hn
          injection hn with hn
          injection hn with hn _
          rw [← hn, ← hP]
          exact beN_beVal 4 P hPl
        have hI : Rd.take ⟨l, 0, 0⟩ 4 = (n, ⟨l, k, 0⟩) := by show Rd.step ⟨l, 0, 0⟩ 0 (takeF 4 l) = _; rw [hn]; simp [Rd.step]
        rw [hI] at hrd
        have HBV := Lib.hid hbv
        have HP := Lib.hid hP
        have HPL := Lib.hid hPl
        have HLT := Lib.hid hlt.1
        have h4 : 4 ≤ c := by omega
        have h4i : (4 : Int) ≤ (c : Int) := by omega
        have h4l : 4 ≤ l.length := by omega
        clear hI hn hbv hP hPl hlt
        refine hrd.mono ?_
        rintro e w3 ⟨ha, hr, hk⟩
        obtain rfl : e = .returned (.int .u32 n) := ha
        have H0 := Lib.hid (show Below w.heap.size w w3.drew ∧ RdIs w3.drew g ⟨l, k, 0⟩ from ⟨(B2.out.trans (hk.belowAt B2.out.size hg)).drew, hr.below (below_drewN (Below.refl _ _) 1)⟩)
        clear hr hk hrd B2 R2
        go_wp2
        go_region_held3 (fun w' => Hid (Below w.heap.size w w')) (first | assumption | (exact Lib.hid H0.out.1) | (exact HQ)) (first | (go_at_call 41; refine (fault_any (r := ⟨l, k, 0⟩) H0.out.2).mono ?_; rintro e w4 ⟨he, rfl⟩; replace he : e = .returned (.int .i64 0) := he; subst he) | (go_at_call 29; refine (put32_any (A := none) (c := 0) (l := []) (B := 0) n Reads.none_ HLT.out (by simp)).mono ?_; rintro e w5 h; obtain ⟨L5, A5, c5, rfl, E5, _, R5, B5⟩ := h.named; have hL5 : L5 = P := (by rw [E5.out]; exact HBV.out); rw [hL5] at R5 ⊢; have HQ := Lib.hid (H0.out.1.trans (B5.out.mono H0.out.1.size)); clear h B5 E5 hL5; rw [HPL.out]) | (go_at_call 19; have RT := reads_take (k := 4) (HR.out.below HQ.out); rw [← HP.out] at RT; have heq := equal_any (c := c5) (c' := c) R5.out RT (by rw [HPL.out]; decide); rw [HPL.out] at heq; refine heq.mono ?_; rintro e w8 ⟨rfl, m2, hw8⟩; rw [show decide (P = P) = true from by simp]; have HQ := Lib.hid (show Below w.heap.size w w8 from by rw [hw8]; exact below_drewN HQ.out m2); clear hw8))
        go_wp2
        go_ret
        exact ⟨rfl, HQ.out⟩
end Go.Proofs.Ytoeccclaaogihaa
