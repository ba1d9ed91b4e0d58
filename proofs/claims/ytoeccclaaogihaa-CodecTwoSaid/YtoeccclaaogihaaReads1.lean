/- CodecReads: the walk. -/
import Derived.Test.YtoeccclaaogihaaTold
import Derived.Test.YtoeccclaaogihaaSp
import Derived.Test.YtoeccclaaogihaaOwn
import Derived.Test.YtoeccclaaogihaaFixed
import Derived.Test.YtoeccclaaogihaaEqual
import Derived.Deep.RegionHeld3
namespace Go.Proofs.Ytoeccclaaogihaa
open Go.RowKit

/-- The program's reader in block g and the document's in the variable g5, both at R. -/
structure Pair (w wr : World) (g5 g : Nat) (A : Option Addr) (c : Nat) (R : Rd) : Prop where
  mine : RdIs wr g R
  want : Blk wr g5 49 #[.slice A R.l.length c, .int .i64 R.at_, .int .i64 R.f]
  reads : BReads wr g5 A R.l
  cap : R.l.length ≤ c
  le : R.at_ ≤ R.l.length
  small : R.l.length ≤ 140737488355328
  below : Below w.heap.size w wr
theorem Pair.ok {w wr : World} {g5 g : Nat} {A : Option Addr} {c : Nat} {R : Rd} (h : Pair w wr g5 g A c R) : RvOk wr A c R := ⟨h.reads.more (Nat.le_of_lt h.want.lt), h.cap, h.le, h.small⟩
theorem Pair.go {w wr w' : World} {g5 g : Nat} {A : Option Addr} {c : Nat} {R : Rd} (h : Pair w wr g5 g A c R) (hb : Below wr.heap.size wr w') : Pair w w' g5 g A c R :=
  ⟨h.mine.below hb, h.want.below' hb, h.reads.below (hb.mono (Nat.le_of_lt h.want.lt)), h.cap, h.le, h.small, h.below.trans (hb.mono h.below.size)⟩
/-- The program's reader has gone on to R2; the document's is written into its variable. -/
theorem Pair.next {w wr w' : World} {g5 g m : Nat} {A : Option Addr} {c : Nat} {R R2 : Rd} (h : Pair w wr g5 g A c R) (hr : RdIs w' g R2) (hk : Keeps (fun k => k = g) wr w') (hl : R2.l = R.l) (hle : R2.at_ ≤ R2.l.length) (h5 : g5 < g) (hw : w.heap.size ≤ g5) :
    Pair w (set3 (w'.drewN m) g5 (.slice A R2.l.length c) (.int .i64 R2.at_) (.int .i64 R2.f)) g5 g A c R2 := by
  have hb := (h.want.keeps hk (show ¬ g5 = g by omega)).drewN m
  have hkk : Keeps (fun k => k = g5) (w'.drewN m) (set3 (w'.drewN m) g5 (.slice A R2.l.length c) (.int .i64 R2.at_) (.int .i64 R2.f)) :=
    (((Keeps.refl (fun k => k = g5) _).setCell (p := ⟨g5, 0, none⟩) (.inl rfl) _).setCell (p := ⟨g5, 1, none⟩) (.inl rfl) _).setCell (p := ⟨g5, 2, none⟩) (.inl rfl) _
  refine ⟨(hr.keeps ((Keeps.refl (fun _ => False) w').drewN m) (fun _ h => h.elim)).keepsO hkk (fun i hi => by subst hi; exact ⟨by omega, .inr ⟨_, _, hb, by decide⟩⟩), hb.set3 _ _ _, ?_, by rw [hl]; exact h.cap, hle, by rw [hl]; exact h.small, ?_⟩
  · have h1 : BReads w' g5 A R2.l := by rw [hl]; exact h.reads.below (hk.below (Nat.le_of_lt h.want.lt) (fun i hi => by omega))
    exact (show BReads (w'.drewN m) g5 A R2.l from h1).below (hkk.below (Nat.le_of_lt hb.lt) (fun i hi => by omega))
  · have h2 : Below w.heap.size wr w' := hk.below h.below.size (fun i hi => by omega)
    exact (h.below.trans h2).trans (below_set3 (below_drewN (Below.refl _ _) m) hw _ _ _)
theorem Pair.drew {w wr : World} {g5 g : Nat} {A : Option Addr} {c : Nat} {R : Rd} (h : Pair w wr g5 g A c R) : Pair w wr.drew g5 g A c R := h.go (below_drewN (Below.refl _ _) 1)
theorem Pair.cells {w wr : World} {g5 g : Nat} {A : Option Addr} {c : Nat} {R : Rd} (h : Pair w wr g5 g A c R) :
    wr.cell? ⟨g5, 0, none⟩ = some (.slice A R.l.length c) ∧ wr.cell? ⟨g5, 1, none⟩ = some (.int .i64 R.at_) ∧ wr.cell? ⟨g5, 2, none⟩ = some (.int .i64 R.f) :=
  ⟨by simpa using h.want.cell 0, by simpa using h.want.cell 1, by simpa using h.want.cell 2⟩
theorem Pair.held {w wr : World} {g5 g : Nat} {A : Option Addr} {c : Nat} {R : Rd} (h : Pair w wr g5 g A c R) :
    wr.cell? ⟨g5, 0, none⟩ = some (.slice A R.l.length c) ∧ wr.cell? ⟨g5, 1, none⟩ = some (.int .i64 R.at_) ∧ wr.cell? ⟨g5, 2, none⟩ = some (.int .i64 R.f) ∧ Hid (Pair w wr g5 g A c R) :=
  ⟨h.cells.1, h.cells.2.1, h.cells.2.2, Lib.hid h⟩
set_option maxRecDepth 100000 in
theorem codecReads_walk {w : World} {A A' : Option Addr} {c c' : Nat} {l : List UInt8} {sc : List Sp} (hr : BReads w w.heap.size A l) (hf : l.length ≤ reachBytes)
    (hs : kSp.Sl w w.heap.size A' sc) (hfs : (kSlice kSp).fits sc) :
    Calls Try.prog 11 #[.slice A l.length c, .slice A' sc.length c'] w fun e w' => e = .returned (.bool true) ∧ Below w.heap.size w w' := by
  have hl : l.length ≤ 140737488355328 := Nat.le_trans hf (by decide)
  have hsl : sc.length ≤ 140737488355328 := Nat.le_trans hfs.1 (by decide)
  have HR := Lib.hid hr
  have HS := Lib.hid hs
  clear hr hs hf hfs
  go_enter Try.func11, Try.ntmps11
  go_wp2_with fail
  refine (refOpen_any HR.out (Nat.le_refl _) hl).mono ?_
  rintro e w1 ⟨A1, c1, rfl, hv, hb⟩
  have V1 := Lib.hid hv
  have B1 := Lib.hid hb
  clear hv hb
  unfold rv
  simp only
  go_wp2_with (at_builtin; refine Stop.of ?_)
  obtain ⟨W1, hW⟩ : ∃ x, x = w1.alloc (.cells #[.slice A1 l.length c1, .int .i64 0, .int .i64 0] 49) := ⟨_, rfl⟩
  have K1 := Lib.hid (show Blk W1 w1.heap.size 49 #[.slice A1 l.length c1, .int .i64 0, .int .i64 0] from by rw [hW]; exact Blk.new _ _ _)
  have B2 := Lib.hid (show Below w.heap.size w W1 from by rw [hW]; exact B1.out.alloc B1.out.size _)
  have BV := Lib.hid (show Below w1.heap.size w1 W1 from by rw [hW]; exact (Below.refl _ _).alloc (Nat.le_refl _) _)
  have s1 : w1.heap.size + 1 = W1.heap.size := by rw [hW]; simp
  rw [← hW, s1]
  clear hW
  have HR1 := Lib.hid ((HR.out.below B2.out).below ((Below.refl _ _).alloc B2.out.size (.cells #[] 5)))
  refine ⟨append_bytes (empty_owns W1) HR1.out.src (by simp only [List.length_nil]; omega) (by simp) rfl rfl rfl rfl ?_⟩
  intro v2 w2 ho hg _
  have B3 := Lib.hid (show Below W1.heap.size W1 w2 from below_grown ((Below.refl _ _).alloc (Nat.le_refl _) _) (empty_owns W1) hg)
  rw [List.nil_append] at ho
  obtain ⟨A2, c2, rfl, _, hr2⟩ := ho.slice
  have O2 := Lib.hid ho
  have R2 := Lib.hid hr2
  clear ho hr2 hg s1
  go_wp2_with fail
  refine (open_any R2.out hl).mono ?_
  rintro e w3 h
  obtain ⟨g, rfl, hg2, hg3, RA, hb⟩ := h.all
  have B4 := Lib.hid hb
  clear h hb
  go_wp2_with fail
  refine (codecFixed_any).mono ?_
  rintro e w4 ⟨rfl, hb⟩
  have B5 := Lib.hid hb
  clear hb
  go_wp2
  go_loopw [8, 31] (fun _ i wr => ∃ I : Nat, i = .int .i64 I ∧ I ≤ l.length ∧ Hid (∃ L', L'.length = l.length ∧ BOwns wr W1.heap.size (.slice A2 l.length c2) L') ∧ Hid (Keeps (fun k => W1.heap.size ≤ k ∧ k < w2.heap.size) w4 wr)) (fun _ i _ => l.length - (intOf i).toNat)
  case atStart => exact ⟨0, rfl, by omega, Lib.hid ⟨l, rfl, (O2.out.below B4.out).below B5.out⟩, Lib.hid (Keeps.refl _ _)⟩
  case round =>
    obtain ⟨I, rfl, hI, hO, hK⟩ := hrel
    by_cases hlt : (I : Int) < l.length
    · obtain ⟨L', hL', ho⟩ := hO.out
      obtain ⟨gm, hA, hg0, _, hfz, hc⟩ := ho.block (by omega)
      obtain ⟨gm', hA', _, hg1, _, _⟩ := O2.out.block (by omega)
      subst hA
      injection hA' with hA'
      injection hA' with hA' _ _
      subst hA'
      have hc1 := hc I (by omega)
      have hf1 := hfz I
      obtain ⟨b, hb⟩ : ∃ b, b = L'[I]'(by omega) := ⟨_, rfl⟩
      rw [← hb] at hc1
      obtain ⟨x, hx⟩ := bits_u8 .xor (b.toNat : Int) 85
      have HO := Lib.hid (ho.store (i := I) (by omega) x)
      have HL := Lib.hid (show (L'.set I x).length = l.length from by rw [List.length_set]; exact hL')
      have HK := Lib.hid (hK.out.setCell (p := ⟨gm, I, none⟩) (.inl ⟨hg0, hg1⟩) (.int .u8 (x.toNat : Int)))
      clear ho hL' hfz hc hb hO
      go_wp2
      exact ⟨⟨I + 1, by go_num, by omega, Lib.hid ⟨_, HL.out, HO.out⟩, HK⟩, by simp [intOf]; omega⟩
    · have KK := Lib.hid ((Keeps.of_below B5.out (fun k => k < w2.heap.size)).trans hK.out (fun i hi => .inl hi.2))
      have RR := Lib.hid (RA.out wr KK.out)
      have hlt5 := K1.out.lt
      have BW := Lib.hid (show Below W1.heap.size w2 wr from (B4.out.mono B3.out.size).trans (((B5.out.mono B4.out.size).mono B3.out.size).trans (hK.out.below (Nat.le_trans (Nat.le_trans B3.out.size B4.out.size) B5.out.size) (fun i hi => hi.1))))
      have BX := Lib.hid (B3.out.trans BW.out)
      have K9 := Lib.hid (K1.out.below' BX.out)
      have B9 := Lib.hid (B2.out.trans (BX.out.mono B2.out.size))
      have V9 := Lib.hid (V1.out.reads.below (BV.out.trans (BX.out.mono (Nat.le_of_lt hlt5))))
      have hcp := V1.out.cap
      simp only at hcp
      have hg5 : w1.heap.size < g := by have := B3.out.size; omega
      have hw5 : w.heap.size ≤ w1.heap.size := B1.out.size
      obtain ⟨g5, hg5e⟩ : ∃ g5, g5 = w1.heap.size := ⟨_, rfl⟩
      rw [← hg5e] at K9 V9 hg5 hw5 ⊢
      clear hg5e hlt5 BX BW KK hK hO RA B5 B4 B3 BV K1 V1 HR1 O2 R2 hg2 hg3 B2 B1 HR
      go_wp2
      have P0 := Lib.hid (show Pair w wr g5 g A1 c1 ⟨l, 0, 0⟩ from ⟨RR.out, K9.out, V9.out, hcp, Nat.zero_le _, hl, B9.out⟩)
      clear RR K9 V9 B9
      go_loopw [43] (fun i wr => ∃ (J : Nat) (R : Rd), i = .int .i64 J ∧ J ≤ sc.length ∧ Hid (Pair w wr g5 g A1 c1 R)) (fun i _ => sc.length - (intOf i).toNat)
      case atStart => exact ⟨0, _, rfl, by omega, P0⟩
      case round =>
        obtain ⟨J, R, rfl, hJ, hP⟩ := hrel
        by_cases hlt2 : (J : Int) < sc.length
        · have hJl : J < sc.length := by omega
          obtain ⟨b, off, rfl, hbb, s0, s1, s2, s3⟩ := script_at (HS.out.below hP.out.below) hJl
          obtain ⟨S, hS⟩ : ∃ S, S = sc[J] := ⟨_, rfl⟩
          rw [← hS] at s0 s1 s2 s3
          clear hS hJl
          obtain ⟨w0, w1', w2'⟩ := hP.out.cells
          have P1 := Lib.hid (hP.out.go ((Below.refl _ _).alloc (Nat.le_refl _) (.cells #[.int .i64 S.kind, .int .i64 S.low, .int .i64 S.high, .int .i64 S.most] 54)))
          have hlt5 := hP.out.want.lt
          obtain ⟨e0, e1, e2⟩ := P1.out.cells
          have KS := Lib.hid (show Blk (wr.alloc (.cells #[.int .i64 S.kind, .int .i64 S.low, .int .i64 S.high, .int .i64 S.most] 54)) wr.heap.size 54 #[.int .i64 S.kind, .int .i64 S.low, .int .i64 S.high, .int .i64 S.most] from Blk.new _ _ _)
          go_wp2_with fail
          refine (told_any (A := A1) (c := c1) (r := R) P1.out.ok S).mono ?_
          obtain ⟨W5, hW5⟩ : ∃ x, x = wr.alloc (.cells #[.int .i64 S.kind, .int .i64 S.low, .int .i64 S.high, .int .i64 S.most] 54) := ⟨_, rfl⟩
          rw [← hW5] at P1 KS e0 e1 e2 ⊢
          obtain ⟨s5, hs5⟩ : ∃ s5, s5 = wr.heap.size := ⟨_, rfl⟩
          rw [← hs5] at KS hlt5 ⊢
          clear hW5 hs5 e0 e1 e2 w0 w1' w2' s0 s1 s2 s3 hP
          obtain ⟨⟨⟨m, p⟩, R2⟩, hx⟩ : ∃ x, x = R.call S := ⟨_, rfl⟩
          have HX := Lib.hid hx
          rw [← hx]
          clear hx
          rintro e w5 ⟨A5, c5, rfl, hrp, hb, hle⟩
          have P2 := Lib.hid (P1.out.go hb)
          have KS2 := Lib.hid (KS.out.below' hb)
          have RP := Lib.hid hrp
          have hszP := hb.size
          have hl2 := R.call_l S
          rw [← HX.out] at hl2
          simp only at hle hl2
          have HL2 := Lib.hid hl2
          clear hrp hb hl2
          unfold rv
          simp only
          have P3 := Lib.hid (P2.out.go ((Below.refl _ _).alloc (Nat.le_refl _) (.cells #[.slice A1 R2.l.length c1, .int .i64 R2.at_, .int .i64 R2.f] 49)))
          have KS3 := Lib.hid (KS2.out.alloc (.cells #[.slice A1 R2.l.length c1, .int .i64 R2.at_, .int .i64 R2.f] 49))
          have KN := Lib.hid (show Blk (w5.alloc (.cells #[.slice A1 R2.l.length c1, .int .i64 R2.at_, .int .i64 R2.f] 49)) w5.heap.size 49 #[.slice A1 R2.l.length c1, .int .i64 R2.at_, .int .i64 R2.f] from Blk.new _ _ _)
          have BA := Lib.hid (show Below w5.heap.size w5 (w5.alloc (.cells #[.slice A1 R2.l.length c1, .int .i64 R2.at_, .int .i64 R2.f] 49)) from (Below.refl _ _).alloc (Nat.le_refl _) _)
          have q0 := KS3.out.cell 0
          have q1 := KS3.out.cell 1
          have q2 := KS3.out.cell 2
          have q3 := KS3.out.cell 3
          simp at q0 q1 q2 q3
          go_wp2_with fail
          refine (step_any P3.out.mine S).mono ?_
          obtain ⟨W6, hW6⟩ : ∃ x, x = w5.alloc (.cells #[.slice A1 R2.l.length c1, .int .i64 R2.at_, .int .i64 R2.f] 49) := ⟨_, rfl⟩
          obtain ⟨g6, hg6⟩ : ∃ g6, g6 = w5.heap.size := ⟨_, rfl⟩
          rw [← hW6] at P3 KN BA ⊢
          rw [← hg6] at KN ⊢
          rw [← HX.out]
          have hg6g : g < g6 := by rw [hg6]; exact P2.out.mine.lt
          clear hW6 hg6 q0 q1 q2 q3 KS KS2 KS3
          rintro e w6 ⟨A6, c6, rfl, hrq, hr, hk⟩
          have RQ := Lib.hid hrq
          have RR := Lib.hid hr
          have HK := Lib.hid hk
          have KN2 := Lib.hid (KN.out.keeps hk (show ¬ g6 = g by omega))
          have K52 := Lib.hid (P3.out.want.keeps hk (show ¬ g5 = g by omega))
          have RP2 := Lib.hid (RP.out w6 ((Keeps.of_below BA.out (fun k => k < W5.heap.size)).trans hk (fun i hi => by have := P1.out.mine.lt; omega)))
          clear hrq hr hk RP P1 P2
          go_wp2_with fail
          have hlen : p.length ≤ 140737488355328 := by
            have h := R.call_len S
            rw [← HX.out] at h
            have := P3.out.small
            simp only at h
            omega
          refine (equal_any RP2.out RQ.out hlen).mono ?_
          rintro e w7 ⟨rfl, k, rfl⟩
          rw [show decide (p = p) = true from by simp]
          have PN := Lib.hid (P3.out.next (m := k) RR.out HK.out HL2.out hle hg5 hw5)
          have HN7 := Lib.hid (KN2.out.drewN k)
          have H57 := Lib.hid (K52.out.drewN k)
          obtain ⟨w7, hw7⟩ : ∃ x, x = w6.drewN k := ⟨_, rfl⟩
          rw [← hw7] at PN HN7 H57 ⊢
          have q0 := HN7.out.cell 0
          have q1 := HN7.out.cell 1
          have q2 := HN7.out.cell 2
          have r0 := H57.out.cell 0
          have r1 := H57.out.cell 1
          have r2 := H57.out.cell 2
          have f0 := H57.out.frozen 0
          have f1 := H57.out.frozen 1
          have f2 := H57.out.frozen 2
          simp at q0 q1 q2 r0 r1 r2
          clear hw7 hlen
          go_wp2
          exact ⟨⟨J + 1, R2, by go_num, by omega, PN⟩, by simp [intOf]; omega⟩
        · obtain ⟨w0, w1', w2'⟩ := hP.out.cells
          have P0 := Lib.hid hP.out.drew
          go_wp2
          go_region_held3 (fun w' => w'.cell? ⟨g5, 0, none⟩ = some (.slice A1 R.l.length c1) ∧ w'.cell? ⟨g5, 1, none⟩ = some (.int .i64 R.at_) ∧ w'.cell? ⟨g5, 2, none⟩ = some (.int .i64 R.f) ∧ Hid (Pair w w' g5 g A1 c1 R)) (first | assumption | (exact Pair.held hQ.out) | (exact Pair.held P0.out)) (first | (go_at_call 41; obtain ⟨_, _, _, hP⟩ := ‹_ ∧ _ ∧ _ ∧ Hid (Pair w _ g5 g A1 c1 R)›; refine (fault_any hP.out.mine).mono ?_; rintro e w1 ⟨rfl, rfl⟩) | (go_at_call 42; obtain ⟨_, _, _, hP⟩ := ‹_ ∧ _ ∧ _ ∧ Hid (Pair w _ g5 g A1 c1 R)›; refine (left_any hP.out.mine).mono ?_; rintro e w1 ⟨rfl, m, hw⟩; have hQ := Lib.hid (show Pair w w1 g5 g A1 c1 R from by rw [hw]; exact hP.out.go (below_drewN (Below.refl _ _) m)); clear hw) | (go_at_call 44; obtain ⟨_, _, _, hP⟩ := ‹_ ∧ _ ∧ _ ∧ Hid (Pair w _ g5 g A1 c1 R)›; refine (end_any hP.out.mine).mono ?_; rintro e w1 ⟨rfl, m, hw⟩; have hQ := Lib.hid (show Pair w w1 g5 g A1 c1 R from by rw [hw]; exact hP.out.go (below_drewN (Below.refl _ _) m)); clear hw) | (go_at_call 43; obtain ⟨_, _, _, hP⟩ := ‹_ ∧ _ ∧ _ ∧ Hid (Pair w _ g5 g A1 c1 R)›; refine (refLeft_any (A := A1) (c := c1) (r := R) hP.out.ok).mono ?_; rintro e w1 ⟨rfl, hb⟩; have hQ := Lib.hid (hP.out.go hb); clear hb) | (go_at_call 45; obtain ⟨_, _, _, hP⟩ := ‹_ ∧ _ ∧ _ ∧ Hid (Pair w _ g5 g A1 c1 R)›; refine (refEnd_any (A := A1) (c := c1) (r := R) hP.out.ok).mono ?_; rintro e w1 ⟨rfl, hb⟩; have hQ := Lib.hid (hP.out.go hb); clear hb))
          go_wp2
          go_ret
          exact ⟨rfl, hQ.out.below⟩
end Go.Proofs.Ytoeccclaaogihaa
