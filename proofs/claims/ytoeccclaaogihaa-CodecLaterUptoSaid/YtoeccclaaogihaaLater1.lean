/- CodecLater: the walk. -/
import Derived.Test.YtoeccclaaogihaaPlainL
import Derived.Test.YtoeccclaaogihaaSp
import Derived.Test.YtoeccclaaogihaaFixed
namespace Go.Proofs.Ytoeccclaaogihaa
open Go.RowKit

theorem RdIs.other {w w' : World} {g g' : Nat} {r r' : Rd} (h : RdIs w g' r') (h1 : RdIs w g r) (hne : g ≠ g') (hk : Keeps (fun k => k = g) w w') : RdIs w' g' r' := by
  obtain ⟨A, c, h1⟩ := h1
  exact h.keepsO hk (fun i hi => by subst hi; exact ⟨hne, .inr ⟨_, _, h1.blk, by decide⟩⟩)
theorem sp_bulk (l : List Sp) : l.length ≤ (kSlice kSp).bulk l := by
  have h : ∀ l : List Sp, l.length ≤ (l.map kSp.bulk).sum := by
    intro l
    induction l with
    | nil => simp
    | cons x r ih =>
      have : kSp.bulk x = 4 := rfl
      simp only [List.map_cons, List.sum_cons, List.length_cons]; omega
  have := h l
  show _ ≤ (l.map kSp.bulk).sum + 1
  omega
set_option maxRecDepth 100000 in
set_option maxHeartbeats 1600000 in
theorem codecLater_walk {w : World} {A B A' : Option Addr} {c d c' : Nat} {a b : List UInt8} {sc : List Sp} (hr : BReads w w.heap.size A a) (hr2 : BReads w w.heap.size B b)
    (hs : kSp.Sl w w.heap.size A' sc) (hbulk : a.length + b.length + (kSlice kSp).bulk sc ≤ 1048576) :
    Calls Try.prog 16 #[.slice A a.length c, .slice B b.length d, .slice A' sc.length c'] w fun e w' => e = .returned (.bool true) ∧ Below w.heap.size w w' := by
  have hl : a.length + b.length ≤ 1048576 := by omega
  have hsl : sc.length ≤ 1048576 := Nat.le_trans (sp_bulk sc) (by omega)
  have HR := Lib.hid hr
  have HR2 := Lib.hid hr2
  have HS := Lib.hid hs
  clear hr hs hr2 hbulk
  go_enter Try.func16, Try.ntmps16
  go_wp2_with (at_builtin; refine Stop.of ?_)
  have HR1 := Lib.hid (HR.out.below ((Below.refl _ w).alloc (Nat.le_refl _) (.cells #[] 5)))
  refine ⟨append_bytes (empty_owns w) HR1.out.src (by simp only [List.length_nil]; omega) (by simp) rfl rfl rfl rfl ?_⟩
  intro v2 w2 ho hg _
  have B2 := Lib.hid (show Below w.heap.size w w2 from below_grown ((Below.refl _ _).alloc (Nat.le_refl _) _) (empty_owns w) hg)
  rw [List.nil_append] at ho
  have O2 := Lib.hid ho
  clear ho hg
  go_wp2_with (at_builtin; refine Stop.of ?_)
  have HR3 := Lib.hid (HR2.out.below B2.out)
  refine ⟨append_bytes O2.out HR3.out.src (by omega) B2.out.size rfl rfl rfl rfl ?_⟩
  intro v3 w3 ho hg _
  have B3 := Lib.hid (below_grown B2.out O2.out hg)
  obtain ⟨L, hL⟩ : ∃ L, L = a ++ b := ⟨_, rfl⟩
  rw [← hL] at ho
  have HL := Lib.hid hL
  have hLl : L.length ≤ 1048576 := by rw [hL, List.length_append]; exact hl
  obtain ⟨A3, c3, rfl, _, hr3⟩ := ho.slice
  have R3 := Lib.hid hr3
  clear ho hg hr3 O2 B2 HR3 HR1 hL
  go_wp2_with fail
  refine (open_any R3.out (by omega)).mono ?_
  rintro e w4 h
  obtain ⟨g, rfl, hg0, hr, hb⟩ := h.out
  have G4 := Lib.hid hr
  have B4 := Lib.hid (B3.out.trans (hb.mono B3.out.size))
  have hgw : w.heap.size ≤ g := by have := B3.out.size; omega
  clear h hr hb hg0 B3 R3
  go_wp2_with fail
  refine (open_any (HR2.out.below B4.out) (by omega)).mono ?_
  rintro e w5 h
  obtain ⟨g2, rfl, hg2, hr, hb⟩ := h.out
  have K5 := Lib.hid hr
  have G5 := Lib.hid (G4.out.below hb)
  have B5 := Lib.hid (B4.out.trans (hb.mono B4.out.size))
  have hlt : g < g2 := by have := G4.out.lt; omega
  clear h hr hb hg2 B4 G4
  go_wp2
  go_loopw [25] (fun i wr => ∃ I : Nat, i = .int .i64 I ∧ I ≤ a.length ∧ Hid (RdIs wr g ⟨L, I, 0⟩ ∧ RdIs wr g2 ⟨b, 0, 0⟩ ∧ Below w.heap.size w wr)) (fun i _ => a.length - (intOf i).toNat)
  case atStart => exact ⟨0, rfl, by omega, Lib.hid ⟨G5.out, K5.out, B5.out⟩⟩
  case round =>
    obtain ⟨I, rfl, hI, hH⟩ := hrel
    by_cases hi : (I : Int) < a.length
    · go_wp2_with fail
      refine (rdTake8_any hH.out.1).mono ?_
      rintro e w6 ⟨ha, hr, hk⟩
      obtain ⟨n, hn⟩ : ∃ n, n = (Rd.take ⟨L, I, 0⟩ 1).1 := ⟨_, rfl⟩
      rw [← hn] at ha
      obtain rfl : e = .returned (.int .u8 n) := ha
      have he : (Rd.take ⟨L, I, 0⟩ 1).2 = ⟨L, I + 1, 0⟩ := by rw [HL.out]; exact ahead_take (by omega)
      rw [he] at hr
      have HN := Lib.hid (show RdIs w6 g ⟨L, I + 1, 0⟩ ∧ RdIs w6 g2 ⟨b, 0, 0⟩ ∧ Below w.heap.size w w6 from ⟨hr, hH.out.2.1.other hH.out.1 (by omega) hk, hH.out.2.2.trans (hk.belowAt hH.out.2.2.size hgw)⟩)
      clear hn he hr hk hH
      go_wp2
      exact ⟨⟨I + 1, by go_num, by omega, HN⟩, by simp [intOf]; omega⟩
    · obtain rfl : I = a.length := by omega
      have HH := Lib.hid (show RdIs wr g (Rd.shift a ⟨b, 0, 0⟩) ∧ RdIs wr g2 ⟨b, 0, 0⟩ ∧ (⟨b, 0, 0⟩ : Rd).l = b ∧ Below w.heap.size w wr from ⟨by have := hH.out.1; rw [HL.out] at this; exact this, hH.out.2.1, rfl, hH.out.2.2⟩)
      clear hH hI
      go_wp2
      go_loopw [32] (fun i wr => ∃ (J : Nat) (R : Rd), i = .int .i64 J ∧ J ≤ sc.length ∧ Hid (RdIs wr g (R.shift a) ∧ RdIs wr g2 R ∧ R.l = b ∧ Below w.heap.size w wr)) (fun i _ => sc.length - (intOf i).toNat)
      case atStart => exact ⟨0, ⟨b, 0, 0⟩, rfl, by omega, Lib.hid ⟨HH.out.1, HH.out.2.1, rfl, HH.out.2.2.2⟩⟩
      case round =>
        obtain ⟨J, R, rfl, hJ, hP⟩ := hrel
        by_cases hlt2 : (J : Int) < sc.length
        · have hJl : J < sc.length := by omega
          obtain ⟨bb, off, rfl, hbb, s0, s1, s2, s3⟩ := script_at (HS.out.below hP.out.2.2.2) hJl
          obtain ⟨S, hS⟩ : ∃ S, S = sc[J] := ⟨_, rfl⟩
          rw [← hS] at s0 s1 s2 s3
          clear hS hJl
          go_wp2_with fail
          have BA := (Below.refl wr.heap.size wr).alloc (Nat.le_refl _) (.cells #[.int .i64 S.kind, .int .i64 S.low, .int .i64 S.high, .int .i64 S.most] 54)
          have P1 := Lib.hid (show RdIs (wr.alloc (.cells #[.int .i64 S.kind, .int .i64 S.low, .int .i64 S.high, .int .i64 S.most] 54)) g (R.shift a) ∧ RdIs (wr.alloc (.cells #[.int .i64 S.kind, .int .i64 S.low, .int .i64 S.high, .int .i64 S.most] 54)) g2 R ∧ R.l = b ∧ Below w.heap.size w (wr.alloc (.cells #[.int .i64 S.kind, .int .i64 S.low, .int .i64 S.high, .int .i64 S.most] 54)) from
            ⟨hP.out.1.below BA, hP.out.2.1.below BA, hP.out.2.2.1, hP.out.2.2.2.alloc hP.out.2.2.2.size _⟩)
          have KS := Lib.hid (Blk.new wr 54 #[.int .i64 S.kind, .int .i64 S.low, .int .i64 S.high, .int .i64 S.most])
          have hg2s : g2 < wr.heap.size := hP.out.2.1.lt
          obtain ⟨W5, hW5⟩ : ∃ x, x = wr.alloc (.cells #[.int .i64 S.kind, .int .i64 S.low, .int .i64 S.high, .int .i64 S.most] 54) := ⟨_, rfl⟩
          obtain ⟨s5, hs5⟩ : ∃ s5, s5 = wr.heap.size := ⟨_, rfl⟩
          rw [← hW5] at P1 KS ⊢
          rw [← hs5] at KS hg2s ⊢
          clear hW5 hs5 s0 s1 s2 s3 hP BA
          have hst := step_all P1.out.1 S
          rw [shift_call] at hst
          obtain ⟨⟨⟨m, p⟩, R2⟩, hx⟩ : ∃ x, x = R.call S := ⟨_, rfl⟩
          have HX := Lib.hid hx
          rw [← hx] at hst
          clear hx
          refine hst.mono ?_
          rintro e w6 ⟨A5, c5, rfl, hrp, hr, hk⟩
          simp only at hrp hr
          have P2 := Lib.hid (show RdIs w6 g (R2.shift a) ∧ RdIs w6 g2 R ∧ R.l = b ∧ Below w.heap.size w w6 from ⟨hr, P1.out.2.1.other P1.out.1 (by omega) hk, P1.out.2.2.1, P1.out.2.2.2.trans (hk.belowAt P1.out.2.2.2.size hgw)⟩)
          have KS2 := Lib.hid (KS.out.keeps hk (show ¬ s5 = g by omega))
          have LP := Lib.hid hrp
          have hgW : g2 < W5.heap.size := P1.out.2.1.lt
          have q0 := KS2.out.cell 0
          have q1 := KS2.out.cell 1
          have q2 := KS2.out.cell 2
          have q3 := KS2.out.cell 3
          simp at q0 q1 q2 q3
          clear hst hrp hr hk P1 KS
          go_wp2_with fail
          have hst := step_all P2.out.2.1 S
          rw [← HX.out] at hst
          refine hst.mono ?_
          rintro e w7 ⟨A6, c6, rfl, hrq, hr, hk⟩
          simp only at hrq hr
          have P3 := Lib.hid (show RdIs w7 g (R2.shift a) ∧ RdIs w7 g2 R2 ∧ R2.l = b ∧ Below w.heap.size w w7 from ⟨P2.out.1.other P2.out.2.1 (by omega) hk, hr, by have := R.call_l S; rw [← HX.out] at this; exact this.trans P2.out.2.2.1, P2.out.2.2.2.trans (hk.belowAt P2.out.2.2.2.size (by omega))⟩)
          have RQ := Lib.hid (hrq _ (Keeps.refl _ _))
          have RP := Lib.hid (LP.out w7 (hk.mono (fun i hi => .inl (by omega))))
          have hpl : p.length ≤ 140737488355328 := by
            have h := R.call_len S
            have hb := P2.out.2.2.1
            rw [← HX.out, hb] at h
            simp only at h
            omega
          clear hst hrq hr hk LP P2 q0 q1 q2 q3 KS2
          go_wp2_with fail
          refine (equal_any RP.out RQ.out hpl).mono ?_
          rintro e w8 ⟨rfl, k, rfl⟩
          rw [show decide (p = p) = true from by simp]
          have PN := Lib.hid (show RdIs (w7.drewN k) g (R2.shift a) ∧ RdIs (w7.drewN k) g2 R2 ∧ R2.l = b ∧ Below w.heap.size w (w7.drewN k) from ⟨P3.out.1.below (below_drewN (Below.refl _ _) k), P3.out.2.1.below (below_drewN (Below.refl _ _) k), P3.out.2.2.1, below_drewN P3.out.2.2.2 k⟩)
          obtain ⟨w8, hw8⟩ : ∃ x, x = w7.drewN k := ⟨_, rfl⟩
          rw [← hw8] at PN ⊢
          clear hw8 hpl P3 RP RQ HX
          go_wp2
          exact ⟨⟨J + 1, R2, by go_num, by omega, PN⟩, by simp [intOf]; omega⟩
        · go_wp2_with fail
          have hfx := left_any hP.out.1
          rw [shift_left] at hfx
          refine hfx.mono ?_
          rintro e w6 ⟨rfl, m, rfl⟩
          clear hfx
          have P1 := Lib.hid (show RdIs (wr.drewN m) g (R.shift a) ∧ RdIs (wr.drewN m) g2 R ∧ Below w.heap.size w (wr.drewN m) from ⟨hP.out.1.below (below_drewN (Below.refl _ _) m), hP.out.2.1.below (below_drewN (Below.refl _ _) m), below_drewN hP.out.2.2.2 m⟩)
          obtain ⟨w6, hw6⟩ : ∃ x, x = wr.drewN m := ⟨_, rfl⟩
          rw [← hw6] at P1 ⊢
          obtain ⟨lf, hlf⟩ : ∃ x, x = R.left := ⟨_, rfl⟩
          rw [← hlf]
          have HLF := Lib.hid hlf
          clear hw6 hP hlf
          go_wp2_with fail
          have hfx := left_any P1.out.2.1
          rw [← HLF.out] at hfx
          refine hfx.mono ?_
          rintro e w7 ⟨rfl, m, rfl⟩
          clear hfx
          have P2 := Lib.hid (show RdIs (w6.drewN m) g (R.shift a) ∧ RdIs (w6.drewN m) g2 R ∧ Below w.heap.size w (w6.drewN m) from ⟨P1.out.1.below (below_drewN (Below.refl _ _) m), P1.out.2.1.below (below_drewN (Below.refl _ _) m), below_drewN P1.out.2.2 m⟩)
          obtain ⟨w7, hw7⟩ : ∃ x, x = w6.drewN m := ⟨_, rfl⟩
          rw [← hw7] at P2 ⊢
          clear hw7 P1
          go_wp2_with fail
          have hfx := fault_any P2.out.1
          obtain ⟨F, hF⟩ : ∃ x, x = R.f := ⟨_, rfl⟩
          rw [show (R.shift a).f = F from hF.symm] at hfx
          have HF := Lib.hid hF
          clear hF
          refine hfx.mono ?_
          rintro e w8 ⟨rfl, rfl⟩
          clear hfx
          go_wp2_with fail
          have hfx := fault_any P2.out.2.1
          rw [← HF.out] at hfx
          refine hfx.mono ?_
          rintro e w8 ⟨rfl, rfl⟩
          clear hfx
          go_wp2_with fail
          refine codecFixed_any.mono ?_
          rintro e w9 ⟨rfl, hb⟩
          have B9 := Lib.hid (P2.out.2.2.trans (hb.mono P2.out.2.2.size))
          clear hb
          go_wp2
          go_ret
          exact ⟨rfl, B9.out⟩
end Go.Proofs.Ytoeccclaaogihaa
