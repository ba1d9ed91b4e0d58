/- CodecTwo: the walk. -/
import Derived.Test.YtoeccclaaogihaaTwo1
namespace Go.Proofs.Ytoeccclaaogihaa
open Go.RowKit

set_option maxRecDepth 100000 in
set_option maxHeartbeats 6400000 in
theorem codecTwo_walk {w : World} {A B A' : Option Addr} {c d c' : Nat} {a b : List UInt8} {sc : List Sp} (hr : BReads w w.heap.size A a) (hf : a.length ≤ reachBytes) (hr2 : BReads w w.heap.size B b) (hf2 : b.length ≤ reachBytes)
    (hs : kSp.Sl w w.heap.size A' sc) (hfs : (kSlice kSp).fits sc) :
    Calls Try.prog 12 #[.slice A a.length c, .slice B b.length d, .slice A' sc.length c'] w fun e w' => e = .returned (.bool true) ∧ Below w.heap.size w w' := by
  have hl : a.length ≤ 140737488355328 := Nat.le_trans hf (by decide)
  have hl2 : b.length ≤ 140737488355328 := Nat.le_trans hf2 (by decide)
  have hsl : sc.length ≤ 140737488355328 := Nat.le_trans hfs.1 (by decide)
  have HR := Lib.hid hr
  have HR2 := Lib.hid hr2
  have HS := Lib.hid hs
  clear hr hs hf hfs hr2 hf2
  go_enter Try.func12, Try.ntmps12
  go_wp2_with fail
  refine (refOpen_any HR.out (Nat.le_refl _) hl).mono ?_
  rintro e w1 ⟨A1, c1, rfl, hv, hb⟩
  have V1 := Lib.hid hv
  have B1 := Lib.hid hb
  clear hv hb
  unfold rv
  simp only
  go_wp2_with fail
  refine (refOpen_any ((HR2.out.below B1.out).more B1.out.size) (Nat.le_refl _) hl2).mono ?_
  rintro e w2 ⟨A2, c2, rfl, hv, hb⟩
  have V2 := Lib.hid hv
  have V1b := Lib.hid (V1.out.below hb)
  have B2 := Lib.hid (B1.out.trans (hb.mono B1.out.size))
  clear hv hb V1 B1
  unfold rv
  simp only
  go_wp2_with fail
  obtain ⟨gw, hgw⟩ : ∃ gw, gw = w2.heap.size := ⟨_, rfl⟩
  obtain ⟨W3, hW3⟩ : ∃ x, x = w2.alloc (.cells #[.slice A1 a.length c1, .int .i64 0, .int .i64 0, .slice A2 b.length c2, .int .i64 0, .int .i64 0] 49) := ⟨_, rfl⟩
  have KW := Lib.hid (show Blk W3 gw 49 (row2 A1 c1 ⟨a, 0, 0⟩ A2 c2 ⟨b, 0, 0⟩) from by rw [hW3, hgw]; exact Blk.new _ _ _)
  have BG := Lib.hid (show Below gw w2 W3 from by rw [hW3, hgw]; exact (Below.refl _ _).alloc (Nat.le_refl _) _)
  have B3 := Lib.hid (show Below w.heap.size w W3 from by rw [hW3]; exact B2.out.alloc B2.out.size _)
  have hgw0 : w.heap.size ≤ gw := by rw [hgw]; exact B2.out.size
  rw [← hW3, ← hgw]
  have q1 := V1b.out.reads
  have q2 := V2.out.reads
  rw [← hgw] at q1 q2
  simp only at q1 q2
  have Q1 := Lib.hid (q1.below BG.out)
  have Q2 := Lib.hid (q2.below BG.out)
  have p1 := V1b.out.cap
  have p2 := V2.out.cap
  simp only at p1 p2
  clear hW3 hgw q1 q2 V1b V2 B2
  refine (open_any (HR.out.below B3.out) hl).mono ?_
  rintro e w4 h
  obtain ⟨g0, rfl, h1, hr0, hb⟩ := h.out
  have R0 := Lib.hid hr0
  clear hr0
  have KW2 := Lib.hid (KW.out.below' hb)
  have hgg := KW.out.lt
  have Q1b := Lib.hid (Q1.out.below (hb.mono (Nat.le_of_lt hgg)))
  have Q2b := Lib.hid (Q2.out.below (hb.mono (Nat.le_of_lt hgg)))
  have B4 := Lib.hid (B3.out.trans (hb.mono B3.out.size))
  have hg0 : gw < g0 := by omega
  clear h hb Q1 Q2 KW B3 hgg
  go_wp2_with fail
  refine (open_any (HR2.out.below B4.out) hl2).mono ?_
  rintro e w5 h
  obtain ⟨g1, rfl, h2, hr1, hb⟩ := h.out
  have R1 := Lib.hid hr1
  clear hr1
  have hg1 : g0 < g1 := by have := R0.out.lt; omega
  have R0b := Lib.hid (R0.out.below hb)
  have KW3 := Lib.hid (KW2.out.below' hb)
  have hgg := KW2.out.lt
  have Q1 := Lib.hid (Q1b.out.below (hb.mono (Nat.le_of_lt hgg)))
  have Q2 := Lib.hid (Q2b.out.below (hb.mono (Nat.le_of_lt hgg)))
  have B5 := Lib.hid (B4.out.trans (hb.mono B4.out.size))
  clear h hb Q1b Q2b KW2 B4 hgg R0
  have PD := Lib.hid (show Duo w (w5.alloc (.cells #[.pointer (some ⟨g0, 0, none⟩), .pointer (some ⟨g1, 0, none⟩)] 51)) gw w5.heap.size g0 g1 A1 c1 ⟨a, 0, 0⟩ A2 c2 ⟨b, 0, 0⟩ from
    ⟨R0b.out.below ((Below.refl _ _).alloc (Nat.le_refl _) _), R1.out.below ((Below.refl _ _).alloc (Nat.le_refl _) _), KW3.out.alloc _, Blk.new _ _ _, Q1.out.below ((Below.refl _ _).alloc (Nat.le_of_lt KW3.out.lt) _), Q2.out.below ((Below.refl _ _).alloc (Nat.le_of_lt KW3.out.lt) _), p1, p2, Nat.zero_le _, Nat.zero_le _, hl, hl2, hgw0, hg0, hg1, R1.out.lt, B5.out.alloc B5.out.size _⟩)
  go_wp2_with fail
  obtain ⟨gp, hgp⟩ : ∃ gp, gp = w5.heap.size := ⟨_, rfl⟩
  rw [← hgp] at PD ⊢
  refine codecFixed_any.mono ?_
  rintro e w6 ⟨rfl, hb⟩
  have P6 := Lib.hid (PD.out.go hb)
  clear hb PD Q1 Q2 KW3 R0b R1 B5 hgp p1 p2 h1 h2 HR HR2 BG
  go_wp2
  go_loopw [42] (fun i wr => ∃ (J : Nat) (R S : Rd), i = .int .i64 J ∧ J ≤ sc.length ∧ Hid (Duo w wr gw gp g0 g1 A1 c1 R A2 c2 S)) (fun i _ => sc.length - (intOf i).toNat)
  case atStart => exact ⟨0, _, _, rfl, by omega, P6⟩
  case round =>
    obtain ⟨J, R, T, rfl, hJ, hP⟩ := hrel
    by_cases hlt2 : (J : Int) < sc.length
    · have hJl : J < sc.length := by omega
      obtain ⟨b, off, rfl, hbb, s0, s1, s2, s3⟩ := script_at (HS.out.below hP.out.below) hJl
      obtain ⟨S, hS⟩ : ∃ S, S = sc[J] := ⟨_, rfl⟩
      rw [← hS] at s0 s1 s2 s3
      clear hS hJl
      by_cases hev : J % 2 = 0
      · have hm : ((J : Int)).tmod 2 = 0 := by rw [Int.tmod_eq_emod_of_nonneg (by omega)]; omega
        have hm2 : (J : Int) % 2 = 0 := by omega
        clear hev
        go_wp2_with fail
        have D7 := Lib.hid (hP.out.go ((Below.refl _ _).alloc (Nat.le_refl _) (.cells #[.int .i64 S.kind, .int .i64 S.low, .int .i64 S.high, .int .i64 S.most] 54)))
        have K7 := Lib.hid (Blk.new wr 54 #[.int .i64 S.kind, .int .i64 S.low, .int .i64 S.high, .int .i64 S.most])
        have hgp7 := hP.out.ptrs.lt
        obtain ⟨W7, hW7⟩ : ∃ x, x = wr.alloc (.cells #[.int .i64 S.kind, .int .i64 S.low, .int .i64 S.high, .int .i64 S.most] 54) := ⟨_, rfl⟩
        obtain ⟨s7, hs7⟩ : ∃ s7, s7 = wr.heap.size := ⟨_, rfl⟩
        rw [← hW7] at D7 K7 ⊢
        rw [← hs7] at K7 hgp7 ⊢
        clear hW7 hs7 s0 s1 s2 s3 hP
        obtain ⟨⟨a0, a1, a2⟩, ⟨a3, a4, a5⟩, a6, a7⟩ := D7.out.cells
        have b0 := K7.out.cell 0
        have b1 := K7.out.cell 1
        have b2 := K7.out.cell 2
        have b3 := K7.out.cell 3
        simp at b0 b1 b2 b3
        have hn0 : gw ≠ W7.heap.size := by have := D7.out.want.lt; omega
        have hs7l := K7.out.lt
        have hn1 : s7 ≠ W7.heap.size := by omega
        have hn2 : gp ≠ W7.heap.size := by have := D7.out.ptrs.lt; omega
        have ho : gw < g0 ∧ g0 < g1 ∧ g1 < gp := ⟨hg0, hg1, D7.out.o3⟩
        go_region_held3 (fun w' => w'.cell? ⟨gw, 0, none⟩ = some (.slice A1 R.l.length c1) ∧ w'.cell? ⟨gw, 1, none⟩ = some (.int .i64 R.at_) ∧ w'.cell? ⟨gw, 2, none⟩ = some (.int .i64 R.f) ∧ w'.cell? ⟨s7, 0, none⟩ = some (.int .i64 S.kind) ∧ w'.cell? ⟨s7, 1, none⟩ = some (.int .i64 S.low) ∧ w'.cell? ⟨s7, 2, none⟩ = some (.int .i64 S.high) ∧ w'.cell? ⟨s7, 3, none⟩ = some (.int .i64 S.most)) (first | (exact ⟨x0, x1, x2, y0, y1, y2, y3⟩) | go_keep | (exact ⟨set3_far hn0 x0, set3_far hn0 x1, set3_far hn0 x2, set3_far hn1 y0, set3_far hn1 y1, set3_far hn1 y2, set3_far hn1 y3⟩)) (first | (go_at_call 39; refine (told_any (A := A1) (c := c1) (r := R) (D7.out.ok0.below (by first | exact (Below.refl _ _).drew | exact ((Below.refl _ _).drew).alloc (Nat.le_refl _) _ | exact ((Below.refl _ _).alloc (Nat.le_refl _) _).drew)) S).mono ?_; obtain ⟨⟨⟨m, p⟩, R2⟩, hx⟩ : ∃ x, x = R.call S := ⟨_, rfl⟩; have HX := Lib.hid hx; rw [← hx]; clear hx; rintro e w8 ⟨A5, c5, rfl, hrp, hb, hle⟩; have RP := Lib.hid hrp; clear hrp; unfold rv; simp only at hle; have B8 := Lib.hid (show Below W7.heap.size W7 w8 from by first | exact ⟨hb.os, hb.tape, hb.output, hb.size, hb.block⟩ | exact below_alloc1 ⟨hb.os, hb.tape, hb.output, hb.size, hb.block⟩); obtain ⟨x0, x1, x2⟩ := (D7.out.go B8.out).cells.1; have hks := K7.out.below' B8.out; have y0 := hks.cell 0; have y1 := hks.cell 1; have y2 := hks.cell 2; have y3 := hks.cell 3; simp at y0 y1 y2 y3; have KS8 := Lib.hid hks; clear hks; try (have Kx : Blk w8 W7.heap.size 49 #[.slice none 0 0, .int .i64 0, .int .i64 0] := Blk.below' (Blk.new W7.drew 49 #[.slice none 0 0, .int .i64 0, .int .i64 0]) hb; have z0 := Kx.cell 0; have z1 := Kx.cell 1; have z2 := Kx.cell 2; have z3 := Kx.frozen 0; have z4 := Kx.frozen 1; have z5 := Kx.frozen 2; simp at z0 z1 z2; have KX := Lib.hid Kx; clear Kx)))
        · have hg13 : W7.heap.size ≤ w8.heap.size := B8.out.size
          have D9 := Lib.hid ((D7.out.go B8.out).go ((Below.refl _ w8).alloc (Nat.le_refl _) (.cells #[.slice A1 R2.l.length c1, .int .i64 R2.at_, .int .i64 R2.f] 49)))
          have KS9 := Lib.hid (KS8.out.alloc (.cells #[.slice A1 R2.l.length c1, .int .i64 R2.at_, .int .i64 R2.f] 49))
          have KN := Lib.hid (Blk.new w8 49 #[.slice A1 R2.l.length c1, .int .i64 R2.at_, .int .i64 R2.f])
          have RP9 := Lib.hid (show ∀ w'', Keeps (fun k => k < W7.heap.size) (w8.alloc (.cells #[.slice A1 R2.l.length c1, .int .i64 R2.at_, .int .i64 R2.f] 49)) w'' → BReads w'' w''.heap.size A5 p from fun w'' hk => RP.out w'' (((Keeps.refl (fun k => k < W7.drew.heap.size) w8).alloc _).trans hk (fun i hi => .inl hi)))
          obtain ⟨g13, hg⟩ : ∃ g13, g13 = w8.heap.size := ⟨_, rfl⟩
          rw [← hg] at KN hg13 ⊢
          obtain ⟨W9, hW9⟩ : ∃ x, x = w8.alloc (.cells #[.slice A1 R2.l.length c1, .int .i64 R2.at_, .int .i64 R2.f] 49) := ⟨_, rfl⟩
          rw [← hW9] at D9 KS9 KN RP9 ⊢
          clear hg hW9 x0 x1 x2 y0 y1 y2 y3
          clear a0 a1 a2 a3 a4 a5 a6 a7 b0 b1 b2 b3 hb B8 KS8 RP K7
          obtain ⟨_, _, a6, a7⟩ := D9.out.cells
          have b0 := KS9.out.cell 0
          have b1 := KS9.out.cell 1
          have b2 := KS9.out.cell 2
          have b3 := KS9.out.cell 3
          simp at b0 b1 b2 b3
          have hl2' := Rd.call_l R S
          have hlen := Rd.call_len R S
          rw [← HX.out] at hl2' hlen
          simp only at hl2' hlen
          have HL2 := Lib.hid hl2'
          have hpl : p.length ≤ 140737488355328 := by have := D9.out.small0; omega
          have hgs7 : gp < s7 := hgp7
          have hs713 : s7 < g13 := by omega
          clear hl2' hlen
          go_wp2
          go_region_held3 (fun w' => w'.cell? ⟨gp, 0, none⟩ = some (.pointer (some ⟨g0, 0, none⟩)) ∧ w'.cell? ⟨s7, 0, none⟩ = some (.int .i64 S.kind) ∧ w'.cell? ⟨s7, 1, none⟩ = some (.int .i64 S.low) ∧ w'.cell? ⟨s7, 2, none⟩ = some (.int .i64 S.high) ∧ w'.cell? ⟨s7, 3, none⟩ = some (.int .i64 S.most)) (first | (exact ⟨x0, y0, y1, y2, y3⟩) | go_keep) (first | (go_at_call 40; refine (step_any (D9.out.go (below_drewN (Below.refl _ _) 1)).mine0 S).mono ?_; rw [← HX.out]; rintro e w10 ⟨A6, c6, rfl, hrq, hr, hk⟩; have HK := Lib.hid (show Keeps (fun k => k = g0) W9 w10 from ⟨hk.os, hk.tape, hk.output, hk.size, hk.block⟩); have RQ := Lib.hid hrq; have RR := Lib.hid hr; clear hrq hr hk; have x0 : w10.cell? ⟨gp, 0, none⟩ = some (.pointer (some ⟨g0, 0, none⟩)) := (by have h := (D9.out.ptrs.keeps HK.out (by omega)).cell 0; simpa using h); have hks := KS9.out.keeps HK.out (by omega); have y0 := hks.cell 0; have y1 := hks.cell 1; have y2 := hks.cell 2; have y3 := hks.cell 3; simp at y0 y1 y2 y3; clear hks))
          clear x0 y0 y1 y2 y3 a6 a7 b0 b1 b2 b3
          have RP2 := Lib.hid (RP9.out w10 (HK.out.mono (fun i hi => .inl (by have := D7.out.ptrs.lt; omega))))
          go_wp2_with fail
          refine (equal_any RP2.out RQ.out hpl).mono ?_
          rintro e w11 ⟨rfl, k, rfl⟩
          rw [show decide (p = p) = true from by simp]
          have PN := Lib.hid (D9.out.next0 (m := k) RR.out HK.out HL2.out hle)
          have HN7 := Lib.hid ((KN.out.keeps HK.out (show ¬ g13 = g0 by omega)).drewN k)
          have H57 := Lib.hid ((D9.out.want.keeps HK.out (show ¬ gw = g0 by omega)).drewN k)
          obtain ⟨w11, hw11⟩ : ∃ x, x = w10.drewN k := ⟨_, rfl⟩
          rw [← hw11] at PN HN7 H57 ⊢
          have q0 := HN7.out.cell 0
          have q1 := HN7.out.cell 1
          have q2 := HN7.out.cell 2
          have r0 := H57.out.cell 0
          have r1 := H57.out.cell 1
          have r2 := H57.out.cell 2
          have f0 := H57.out.frozen 0
          have f1 := H57.out.frozen 1
          have f2 := H57.out.frozen 2
          simp [row2] at q0 q1 q2 r0 r1 r2
          clear hw11 hpl
          go_wp2
          exact ⟨⟨J + 1, R2, T, by go_num, by omega, PN⟩, by simp [intOf]; omega⟩
        · change Exit.then _ _ _ _ (set3 w8 W7.heap.size (.slice A1 R2.l.length c1) (.int .i64 R2.at_) (.int .i64 R2.f))
          have hg13 : W7.heap.size ≤ W7.heap.size := Nat.le_refl _
          have hszX : W7.heap.size < W7.drew.heap.size + 1 := by show W7.heap.size < W7.heap.size + 1; omega
          have hkX := keeps_setAt w8 W7.heap.size 0 (.slice A1 R2.l.length c1) (.int .i64 R2.at_) (.int .i64 R2.f)
          have D9 := Lib.hid (show Duo w (set3 w8 W7.heap.size (.slice A1 R2.l.length c1) (.int .i64 R2.at_) (.int .i64 R2.f)) gw gp g0 g1 A1 c1 R A2 c2 T from (D7.out.go B8.out).far (by have := D7.out.ptrs.lt; omega) _ _ _)
          have KS9 := Lib.hid (show Blk (set3 w8 W7.heap.size (.slice A1 R2.l.length c1) (.int .i64 R2.at_) (.int .i64 R2.f)) s7 54 #[.int .i64 S.kind, .int .i64 S.low, .int .i64 S.high, .int .i64 S.most] from blk_set3_far KS8.out hn1)
          have KN := Lib.hid (KX.out.set3 (.slice A1 R2.l.length c1) (.int .i64 R2.at_) (.int .i64 R2.f))
          have RP9 := Lib.hid (show ∀ w'', Keeps (fun k => k < W7.heap.size) (set3 w8 W7.heap.size (.slice A1 R2.l.length c1) (.int .i64 R2.at_) (.int .i64 R2.f)) w'' → BReads w'' w''.heap.size A5 p from fun w'' hk => RP.out w'' ((hkX.mono (S' := fun k => k < W7.heap.size + 1) (fun i hi => .inl (by omega))).mono (fun i hi => .inl (by simpa using hi)) |>.trans hk (fun i hi => .inl (by show i < _; simp; omega))))
          obtain ⟨g13, hg⟩ : ∃ g13, g13 = W7.heap.size := ⟨_, rfl⟩
          obtain ⟨W9, hW9⟩ : ∃ x, x = set3 w8 W7.heap.size (.slice A1 R2.l.length c1) (.int .i64 R2.at_) (.int .i64 R2.f) := ⟨_, rfl⟩
          rw [← hW9] at D9 KS9 KN RP9 ⊢
          rw [← hg] at KN ⊢
          have hg13 : W7.heap.size ≤ g13 := by omega
          clear hg hW9 hkX hszX x0 x1 x2 y0 y1 y2 y3 z0 z1 z2 z3 z4 z5
          clear a0 a1 a2 a3 a4 a5 a6 a7 b0 b1 b2 b3 hb B8 KS8 RP K7
          obtain ⟨_, _, a6, a7⟩ := D9.out.cells
          have b0 := KS9.out.cell 0
          have b1 := KS9.out.cell 1
          have b2 := KS9.out.cell 2
          have b3 := KS9.out.cell 3
          simp at b0 b1 b2 b3
          have hl2' := Rd.call_l R S
          have hlen := Rd.call_len R S
          rw [← HX.out] at hl2' hlen
          simp only at hl2' hlen
          have HL2 := Lib.hid hl2'
          have hpl : p.length ≤ 140737488355328 := by have := D9.out.small0; omega
          have hgs7 : gp < s7 := hgp7
          have hs713 : s7 < g13 := by omega
          clear hl2' hlen
          go_wp2
          go_region_held3 (fun w' => w'.cell? ⟨gp, 0, none⟩ = some (.pointer (some ⟨g0, 0, none⟩)) ∧ w'.cell? ⟨s7, 0, none⟩ = some (.int .i64 S.kind) ∧ w'.cell? ⟨s7, 1, none⟩ = some (.int .i64 S.low) ∧ w'.cell? ⟨s7, 2, none⟩ = some (.int .i64 S.high) ∧ w'.cell? ⟨s7, 3, none⟩ = some (.int .i64 S.most)) (first | (exact ⟨x0, y0, y1, y2, y3⟩) | go_keep) (first | (go_at_call 40; refine (step_any (D9.out.go (below_drewN (Below.refl _ _) 1)).mine0 S).mono ?_; rw [← HX.out]; rintro e w10 ⟨A6, c6, rfl, hrq, hr, hk⟩; have HK := Lib.hid (show Keeps (fun k => k = g0) W9 w10 from ⟨hk.os, hk.tape, hk.output, hk.size, hk.block⟩); have RQ := Lib.hid hrq; have RR := Lib.hid hr; clear hrq hr hk; have x0 : w10.cell? ⟨gp, 0, none⟩ = some (.pointer (some ⟨g0, 0, none⟩)) := (by have h := (D9.out.ptrs.keeps HK.out (by omega)).cell 0; simpa using h); have hks := KS9.out.keeps HK.out (by omega); have y0 := hks.cell 0; have y1 := hks.cell 1; have y2 := hks.cell 2; have y3 := hks.cell 3; simp at y0 y1 y2 y3; clear hks))
          clear x0 y0 y1 y2 y3 a6 a7 b0 b1 b2 b3
          have RP2 := Lib.hid (RP9.out w10 (HK.out.mono (fun i hi => .inl (by have := D7.out.ptrs.lt; omega))))
          go_wp2_with fail
          refine (equal_any RP2.out RQ.out hpl).mono ?_
          rintro e w11 ⟨rfl, k, rfl⟩
          rw [show decide (p = p) = true from by simp]
          have PN := Lib.hid (D9.out.next0 (m := k) RR.out HK.out HL2.out hle)
          have HN7 := Lib.hid ((KN.out.keeps HK.out (show ¬ g13 = g0 by omega)).drewN k)
          have H57 := Lib.hid ((D9.out.want.keeps HK.out (show ¬ gw = g0 by omega)).drewN k)
          obtain ⟨w11, hw11⟩ : ∃ x, x = w10.drewN k := ⟨_, rfl⟩
          rw [← hw11] at PN HN7 H57 ⊢
          have q0 := HN7.out.cell 0
          have q1 := HN7.out.cell 1
          have q2 := HN7.out.cell 2
          have r0 := H57.out.cell 0
          have r1 := H57.out.cell 1
          have r2 := H57.out.cell 2
          have f0 := H57.out.frozen 0
          have f1 := H57.out.frozen 1
          have f2 := H57.out.frozen 2
          simp [row2] at q0 q1 q2 r0 r1 r2
          clear hw11 hpl
          go_wp2
          exact ⟨⟨J + 1, R2, T, by go_num, by omega, PN⟩, by simp [intOf]; omega⟩
      · have hm : ((J : Int)).tmod 2 = 1 := by rw [Int.tmod_eq_emod_of_nonneg (by omega)]; omega
        have hm2 : (J : Int) % 2 = 1 := by omega
        clear hev
        go_wp2_with fail
        have D7 := Lib.hid (hP.out.go ((Below.refl _ _).alloc (Nat.le_refl _) (.cells #[.int .i64 S.kind, .int .i64 S.low, .int .i64 S.high, .int .i64 S.most] 54)))
        have K7 := Lib.hid (Blk.new wr 54 #[.int .i64 S.kind, .int .i64 S.low, .int .i64 S.high, .int .i64 S.most])
        have hgp7 := hP.out.ptrs.lt
        obtain ⟨W7, hW7⟩ : ∃ x, x = wr.alloc (.cells #[.int .i64 S.kind, .int .i64 S.low, .int .i64 S.high, .int .i64 S.most] 54) := ⟨_, rfl⟩
        obtain ⟨s7, hs7⟩ : ∃ s7, s7 = wr.heap.size := ⟨_, rfl⟩
        rw [← hW7] at D7 K7 ⊢
        rw [← hs7] at K7 hgp7 ⊢
        clear hW7 hs7 s0 s1 s2 s3 hP
        obtain ⟨⟨a0, a1, a2⟩, ⟨a3, a4, a5⟩, a6, a7⟩ := D7.out.cells
        have b0 := K7.out.cell 0
        have b1 := K7.out.cell 1
        have b2 := K7.out.cell 2
        have b3 := K7.out.cell 3
        simp at b0 b1 b2 b3
        have hn0 : gw ≠ W7.heap.size := by have := D7.out.want.lt; omega
        have hs7l := K7.out.lt
        have hn1 : s7 ≠ W7.heap.size := by omega
        have hn2 : gp ≠ W7.heap.size := by have := D7.out.ptrs.lt; omega
        have ho : gw < g0 ∧ g0 < g1 ∧ g1 < gp := ⟨hg0, hg1, D7.out.o3⟩
        go_region_held3 (fun w' => w'.cell? ⟨gw, 3, none⟩ = some (.slice A2 T.l.length c2) ∧ w'.cell? ⟨gw, 4, none⟩ = some (.int .i64 T.at_) ∧ w'.cell? ⟨gw, 5, none⟩ = some (.int .i64 T.f) ∧ w'.cell? ⟨s7, 0, none⟩ = some (.int .i64 S.kind) ∧ w'.cell? ⟨s7, 1, none⟩ = some (.int .i64 S.low) ∧ w'.cell? ⟨s7, 2, none⟩ = some (.int .i64 S.high) ∧ w'.cell? ⟨s7, 3, none⟩ = some (.int .i64 S.most)) (first | (exact ⟨x0, x1, x2, y0, y1, y2, y3⟩) | go_keep | (exact ⟨set3_far hn0 x0, set3_far hn0 x1, set3_far hn0 x2, set3_far hn1 y0, set3_far hn1 y1, set3_far hn1 y2, set3_far hn1 y3⟩)) (first | (go_at_call 39; refine (told_any (A := A2) (c := c2) (r := T) (D7.out.ok1.below (by first | exact (Below.refl _ _).drew | exact ((Below.refl _ _).drew).alloc (Nat.le_refl _) _ | exact ((Below.refl _ _).alloc (Nat.le_refl _) _).drew)) S).mono ?_; obtain ⟨⟨⟨m, p⟩, R2⟩, hx⟩ : ∃ x, x = T.call S := ⟨_, rfl⟩; have HX := Lib.hid hx; rw [← hx]; clear hx; rintro e w8 ⟨A5, c5, rfl, hrp, hb, hle⟩; have RP := Lib.hid hrp; clear hrp; unfold rv; simp only at hle; have B8 := Lib.hid (show Below W7.heap.size W7 w8 from by first | exact ⟨hb.os, hb.tape, hb.output, hb.size, hb.block⟩ | exact below_alloc1 ⟨hb.os, hb.tape, hb.output, hb.size, hb.block⟩); obtain ⟨x0, x1, x2⟩ := (D7.out.go B8.out).cells.2.1; have hks := K7.out.below' B8.out; have y0 := hks.cell 0; have y1 := hks.cell 1; have y2 := hks.cell 2; have y3 := hks.cell 3; simp at y0 y1 y2 y3; have KS8 := Lib.hid hks; clear hks; try (have Kx : Blk w8 W7.heap.size 49 #[.slice none 0 0, .int .i64 0, .int .i64 0] := Blk.below' (Blk.new W7.drew 49 #[.slice none 0 0, .int .i64 0, .int .i64 0]) hb; have z0 := Kx.cell 0; have z1 := Kx.cell 1; have z2 := Kx.cell 2; have z3 := Kx.frozen 0; have z4 := Kx.frozen 1; have z5 := Kx.frozen 2; simp at z0 z1 z2; have KX := Lib.hid Kx; clear Kx)))
        · have hg13 : W7.heap.size ≤ w8.heap.size := B8.out.size
          have D9 := Lib.hid ((D7.out.go B8.out).go ((Below.refl _ w8).alloc (Nat.le_refl _) (.cells #[.slice A2 R2.l.length c2, .int .i64 R2.at_, .int .i64 R2.f] 49)))
          have KS9 := Lib.hid (KS8.out.alloc (.cells #[.slice A2 R2.l.length c2, .int .i64 R2.at_, .int .i64 R2.f] 49))
          have KN := Lib.hid (Blk.new w8 49 #[.slice A2 R2.l.length c2, .int .i64 R2.at_, .int .i64 R2.f])
          have RP9 := Lib.hid (show ∀ w'', Keeps (fun k => k < W7.heap.size) (w8.alloc (.cells #[.slice A2 R2.l.length c2, .int .i64 R2.at_, .int .i64 R2.f] 49)) w'' → BReads w'' w''.heap.size A5 p from fun w'' hk => RP.out w'' (((Keeps.refl (fun k => k < W7.drew.heap.size) w8).alloc _).trans hk (fun i hi => .inl hi)))
          obtain ⟨g13, hg⟩ : ∃ g13, g13 = w8.heap.size := ⟨_, rfl⟩
          rw [← hg] at KN hg13 ⊢
          obtain ⟨W9, hW9⟩ : ∃ x, x = w8.alloc (.cells #[.slice A2 R2.l.length c2, .int .i64 R2.at_, .int .i64 R2.f] 49) := ⟨_, rfl⟩
          rw [← hW9] at D9 KS9 KN RP9 ⊢
          clear hg hW9 x0 x1 x2 y0 y1 y2 y3
          clear a0 a1 a2 a3 a4 a5 a6 a7 b0 b1 b2 b3 hb B8 KS8 RP K7
          obtain ⟨_, _, a6, a7⟩ := D9.out.cells
          have b0 := KS9.out.cell 0
          have b1 := KS9.out.cell 1
          have b2 := KS9.out.cell 2
          have b3 := KS9.out.cell 3
          simp at b0 b1 b2 b3
          have hl2' := Rd.call_l T S
          have hlen := Rd.call_len T S
          rw [← HX.out] at hl2' hlen
          simp only at hl2' hlen
          have HL2 := Lib.hid hl2'
          have hpl : p.length ≤ 140737488355328 := by have := D9.out.small1; omega
          have hgs7 : gp < s7 := hgp7
          have hs713 : s7 < g13 := by omega
          clear hl2' hlen
          go_wp2
          go_region_held3 (fun w' => w'.cell? ⟨gp, 1, none⟩ = some (.pointer (some ⟨g1, 0, none⟩)) ∧ w'.cell? ⟨s7, 0, none⟩ = some (.int .i64 S.kind) ∧ w'.cell? ⟨s7, 1, none⟩ = some (.int .i64 S.low) ∧ w'.cell? ⟨s7, 2, none⟩ = some (.int .i64 S.high) ∧ w'.cell? ⟨s7, 3, none⟩ = some (.int .i64 S.most)) (first | (exact ⟨x0, y0, y1, y2, y3⟩) | go_keep) (first | (go_at_call 40; refine (step_any (D9.out.go (below_drewN (Below.refl _ _) 1)).mine1 S).mono ?_; rw [← HX.out]; rintro e w10 ⟨A6, c6, rfl, hrq, hr, hk⟩; have HK := Lib.hid (show Keeps (fun k => k = g1) W9 w10 from ⟨hk.os, hk.tape, hk.output, hk.size, hk.block⟩); have RQ := Lib.hid hrq; have RR := Lib.hid hr; clear hrq hr hk; have x0 : w10.cell? ⟨gp, 1, none⟩ = some (.pointer (some ⟨g1, 0, none⟩)) := (by have h := (D9.out.ptrs.keeps HK.out (by omega)).cell 1; simpa using h); have hks := KS9.out.keeps HK.out (by omega); have y0 := hks.cell 0; have y1 := hks.cell 1; have y2 := hks.cell 2; have y3 := hks.cell 3; simp at y0 y1 y2 y3; clear hks))
          clear x0 y0 y1 y2 y3 a6 a7 b0 b1 b2 b3
          have RP2 := Lib.hid (RP9.out w10 (HK.out.mono (fun i hi => .inl (by have := D7.out.ptrs.lt; omega))))
          go_wp2_with fail
          refine (equal_any RP2.out RQ.out hpl).mono ?_
          rintro e w11 ⟨rfl, k, rfl⟩
          rw [show decide (p = p) = true from by simp]
          have PN := Lib.hid (D9.out.next1 (m := k) RR.out HK.out HL2.out hle)
          have HN7 := Lib.hid ((KN.out.keeps HK.out (show ¬ g13 = g1 by omega)).drewN k)
          have H57 := Lib.hid ((D9.out.want.keeps HK.out (show ¬ gw = g1 by omega)).drewN k)
          obtain ⟨w11, hw11⟩ : ∃ x, x = w10.drewN k := ⟨_, rfl⟩
          rw [← hw11] at PN HN7 H57 ⊢
          have q0 := HN7.out.cell 0
          have q1 := HN7.out.cell 1
          have q2 := HN7.out.cell 2
          have r0 := H57.out.cell 3
          have r1 := H57.out.cell 4
          have r2 := H57.out.cell 5
          have f0 := H57.out.frozen 3
          have f1 := H57.out.frozen 4
          have f2 := H57.out.frozen 5
          simp [row2] at q0 q1 q2 r0 r1 r2
          clear hw11 hpl
          go_wp2
          exact ⟨⟨J + 1, R, R2, by go_num, by omega, PN⟩, by simp [intOf]; omega⟩
        · change Exit.then _ _ _ _ (set3 w8 W7.heap.size (.slice A2 R2.l.length c2) (.int .i64 R2.at_) (.int .i64 R2.f))
          have hg13 : W7.heap.size ≤ W7.heap.size := Nat.le_refl _
          have hszX : W7.heap.size < W7.drew.heap.size + 1 := by show W7.heap.size < W7.heap.size + 1; omega
          have hkX := keeps_setAt w8 W7.heap.size 0 (.slice A2 R2.l.length c2) (.int .i64 R2.at_) (.int .i64 R2.f)
          have D9 := Lib.hid (show Duo w (set3 w8 W7.heap.size (.slice A2 R2.l.length c2) (.int .i64 R2.at_) (.int .i64 R2.f)) gw gp g0 g1 A1 c1 R A2 c2 T from (D7.out.go B8.out).far (by have := D7.out.ptrs.lt; omega) _ _ _)
          have KS9 := Lib.hid (show Blk (set3 w8 W7.heap.size (.slice A2 R2.l.length c2) (.int .i64 R2.at_) (.int .i64 R2.f)) s7 54 #[.int .i64 S.kind, .int .i64 S.low, .int .i64 S.high, .int .i64 S.most] from blk_set3_far KS8.out hn1)
          have KN := Lib.hid (KX.out.set3 (.slice A2 R2.l.length c2) (.int .i64 R2.at_) (.int .i64 R2.f))
          have RP9 := Lib.hid (show ∀ w'', Keeps (fun k => k < W7.heap.size) (set3 w8 W7.heap.size (.slice A2 R2.l.length c2) (.int .i64 R2.at_) (.int .i64 R2.f)) w'' → BReads w'' w''.heap.size A5 p from fun w'' hk => RP.out w'' ((hkX.mono (S' := fun k => k < W7.heap.size + 1) (fun i hi => .inl (by omega))).mono (fun i hi => .inl (by simpa using hi)) |>.trans hk (fun i hi => .inl (by show i < _; simp; omega))))
          obtain ⟨g13, hg⟩ : ∃ g13, g13 = W7.heap.size := ⟨_, rfl⟩
          obtain ⟨W9, hW9⟩ : ∃ x, x = set3 w8 W7.heap.size (.slice A2 R2.l.length c2) (.int .i64 R2.at_) (.int .i64 R2.f) := ⟨_, rfl⟩
          rw [← hW9] at D9 KS9 KN RP9 ⊢
          rw [← hg] at KN ⊢
          have hg13 : W7.heap.size ≤ g13 := by omega
          clear hg hW9 hkX hszX x0 x1 x2 y0 y1 y2 y3 z0 z1 z2 z3 z4 z5
          clear a0 a1 a2 a3 a4 a5 a6 a7 b0 b1 b2 b3 hb B8 KS8 RP K7
          obtain ⟨_, _, a6, a7⟩ := D9.out.cells
          have b0 := KS9.out.cell 0
          have b1 := KS9.out.cell 1
          have b2 := KS9.out.cell 2
          have b3 := KS9.out.cell 3
          simp at b0 b1 b2 b3
          have hl2' := Rd.call_l T S
          have hlen := Rd.call_len T S
          rw [← HX.out] at hl2' hlen
          simp only at hl2' hlen
          have HL2 := Lib.hid hl2'
          have hpl : p.length ≤ 140737488355328 := by have := D9.out.small1; omega
          have hgs7 : gp < s7 := hgp7
          have hs713 : s7 < g13 := by omega
          clear hl2' hlen
          go_wp2
          go_region_held3 (fun w' => w'.cell? ⟨gp, 1, none⟩ = some (.pointer (some ⟨g1, 0, none⟩)) ∧ w'.cell? ⟨s7, 0, none⟩ = some (.int .i64 S.kind) ∧ w'.cell? ⟨s7, 1, none⟩ = some (.int .i64 S.low) ∧ w'.cell? ⟨s7, 2, none⟩ = some (.int .i64 S.high) ∧ w'.cell? ⟨s7, 3, none⟩ = some (.int .i64 S.most)) (first | (exact ⟨x0, y0, y1, y2, y3⟩) | go_keep) (first | (go_at_call 40; refine (step_any (D9.out.go (below_drewN (Below.refl _ _) 1)).mine1 S).mono ?_; rw [← HX.out]; rintro e w10 ⟨A6, c6, rfl, hrq, hr, hk⟩; have HK := Lib.hid (show Keeps (fun k => k = g1) W9 w10 from ⟨hk.os, hk.tape, hk.output, hk.size, hk.block⟩); have RQ := Lib.hid hrq; have RR := Lib.hid hr; clear hrq hr hk; have x0 : w10.cell? ⟨gp, 1, none⟩ = some (.pointer (some ⟨g1, 0, none⟩)) := (by have h := (D9.out.ptrs.keeps HK.out (by omega)).cell 1; simpa using h); have hks := KS9.out.keeps HK.out (by omega); have y0 := hks.cell 0; have y1 := hks.cell 1; have y2 := hks.cell 2; have y3 := hks.cell 3; simp at y0 y1 y2 y3; clear hks))
          clear x0 y0 y1 y2 y3 a6 a7 b0 b1 b2 b3
          have RP2 := Lib.hid (RP9.out w10 (HK.out.mono (fun i hi => .inl (by have := D7.out.ptrs.lt; omega))))
          go_wp2_with fail
          refine (equal_any RP2.out RQ.out hpl).mono ?_
          rintro e w11 ⟨rfl, k, rfl⟩
          rw [show decide (p = p) = true from by simp]
          have PN := Lib.hid (D9.out.next1 (m := k) RR.out HK.out HL2.out hle)
          have HN7 := Lib.hid ((KN.out.keeps HK.out (show ¬ g13 = g1 by omega)).drewN k)
          have H57 := Lib.hid ((D9.out.want.keeps HK.out (show ¬ gw = g1 by omega)).drewN k)
          obtain ⟨w11, hw11⟩ : ∃ x, x = w10.drewN k := ⟨_, rfl⟩
          rw [← hw11] at PN HN7 H57 ⊢
          have q0 := HN7.out.cell 0
          have q1 := HN7.out.cell 1
          have q2 := HN7.out.cell 2
          have r0 := H57.out.cell 3
          have r1 := H57.out.cell 4
          have r2 := H57.out.cell 5
          have f0 := H57.out.frozen 3
          have f1 := H57.out.frozen 4
          have f2 := H57.out.frozen 5
          simp [row2] at q0 q1 q2 r0 r1 r2
          clear hw11 hpl
          go_wp2
          exact ⟨⟨J + 1, R, R2, by go_num, by omega, PN⟩, by simp [intOf]; omega⟩
    · have P0 := Lib.hid (hP.out.go (below_drewN (Below.refl _ _) 1))
      obtain ⟨⟨a0, a1, a2⟩, ⟨a3, a4, a5⟩, a6, a7⟩ := hP.out.cells
      go_wp2
      go_region_held3 (fun w' => w'.cell? ⟨gw, 0, none⟩ = some (.slice A1 R.l.length c1) ∧ w'.cell? ⟨gw, 1, none⟩ = some (.int .i64 R.at_) ∧ w'.cell? ⟨gw, 2, none⟩ = some (.int .i64 R.f) ∧ w'.cell? ⟨gw, 3, none⟩ = some (.slice A2 T.l.length c2) ∧ w'.cell? ⟨gw, 4, none⟩ = some (.int .i64 T.at_) ∧ w'.cell? ⟨gw, 5, none⟩ = some (.int .i64 T.f) ∧ w'.cell? ⟨gp, 0, none⟩ = some (.pointer (some ⟨g0, 0, none⟩)) ∧ w'.cell? ⟨gp, 1, none⟩ = some (.pointer (some ⟨g1, 0, none⟩)) ∧ Hid (Duo w w' gw gp g0 g1 A1 c1 R A2 c2 T)) (first | assumption | (exact Duo.held hQ.out) | (exact Duo.held P0.out)) (first | (go_at_call 42; obtain ⟨_, _, _, _, _, _, _, _, hP⟩ := ‹_ ∧ _ ∧ _ ∧ _ ∧ _ ∧ _ ∧ _ ∧ _ ∧ Hid (Duo w _ gw gp g0 g1 A1 c1 R A2 c2 T)›; with_reducible refine (left_any hP.out.mine0).mono ?_; rintro e w1 ⟨rfl, m, hw⟩; have hQ := Lib.hid (show Duo w w1 gw gp g0 g1 A1 c1 R A2 c2 T from by rw [hw]; exact hP.out.go (below_drewN (Below.refl _ _) m)); clear hw) | (go_at_call 42; obtain ⟨_, _, _, _, _, _, _, _, hP⟩ := ‹_ ∧ _ ∧ _ ∧ _ ∧ _ ∧ _ ∧ _ ∧ _ ∧ Hid (Duo w _ gw gp g0 g1 A1 c1 R A2 c2 T)›; with_reducible refine (left_any hP.out.mine1).mono ?_; rintro e w1 ⟨rfl, m, hw⟩; have hQ := Lib.hid (show Duo w w1 gw gp g0 g1 A1 c1 R A2 c2 T from by rw [hw]; exact hP.out.go (below_drewN (Below.refl _ _) m)); clear hw) | (go_at_call 43; obtain ⟨_, _, _, _, _, _, _, _, hP⟩ := ‹_ ∧ _ ∧ _ ∧ _ ∧ _ ∧ _ ∧ _ ∧ _ ∧ Hid (Duo w _ gw gp g0 g1 A1 c1 R A2 c2 T)›; with_reducible refine (refLeftV_any (A := A1) (c := c1) (r := R) hP.out.ok0).mono ?_; rintro e w1 ⟨rfl, hb⟩; have hQ := Lib.hid (hP.out.go hb); clear hb) | (go_at_call 43; obtain ⟨_, _, _, _, _, _, _, _, hP⟩ := ‹_ ∧ _ ∧ _ ∧ _ ∧ _ ∧ _ ∧ _ ∧ _ ∧ Hid (Duo w _ gw gp g0 g1 A1 c1 R A2 c2 T)›; with_reducible refine (refLeftV_any (A := A2) (c := c2) (r := T) hP.out.ok1).mono ?_; rintro e w1 ⟨rfl, hb⟩; have hQ := Lib.hid (hP.out.go hb); clear hb))
      go_wp2
      go_ret
      exact ⟨rfl, hQ.out.below⟩
end Go.Proofs.Ytoeccclaaogihaa
