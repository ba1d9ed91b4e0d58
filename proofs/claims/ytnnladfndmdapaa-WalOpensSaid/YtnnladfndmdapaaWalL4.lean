/- WalOpens: the walk. -/
import Derived.Test.YtnnladfndmdapaaG18
import Derived.Test.YtnnladfndmdapaaG20
set_option linter.unusedVariables false
set_option linter.unusedSimpArgs false
namespace Go.Proofs.Ytnnladfndmdapaa
open Go.RowKit

theorem and15 (x : Int) : ∃ n : Nat, n ≤ 15 ∧ bits .and .i64 x 15 = (n : Int) := by
  refine ⟨(BitVec.ofInt 64 x).toNat &&& 15, Nat.and_le_right, ?_⟩
  have h : (BitVec.ofInt 64 x).toNat &&& 15 ≤ 15 := Nat.and_le_right
  show IntKind.i64.wrap ((BitVec.ofInt 64 x &&& BitVec.ofInt 64 15).toNat : Int) = _
  rw [BitVec.toNat_and, show (BitVec.ofInt 64 15).toNat = 15 from by decide, IntKind.wrap_i64]
  omega
set_option maxRecDepth 100000 in
set_option maxHeartbeats 1600000 in
theorem alike_nil {w : World} {n : Int} : Calls Try.prog 53 #[.agg (toldC n 0 0 0 none 0 0 none 0 0), .agg (toldC n 0 0 0 none 0 0 none 0 0)] w (True_ w) := by
  unfold toldC
  go_enter Try.func53, Try.ntmps53
  have B1 := Lib.hid ((((Below.refl _ w).alloc (Nat.le_refl _) (.cells #[.int .i64 n, .int .i64 0, .int .i64 0, .int .i64 0, .slice none 0 0, .slice none 0 0] 90)).alloc (by simp) (.cells #[.int .i64 n, .int .i64 0, .int .i64 0, .int .i64 0, .slice none 0 0, .slice none 0 0] 90)))
  have K2 := Lib.hid (Blk.new w 90 #[.int .i64 n, .int .i64 0, .int .i64 0, .int .i64 0, .slice none 0 0, .slice none 0 0])
  go_wp2_with fail
  refine (Alike_true (l := []) (A := none) (A' := none) (c := 0) (c' := 0) sl_nil sl_nil (by decide)).mono ?_
  rintro e w1 ⟨rfl, hb⟩
  have B2 := Lib.hid (B1.out.trans (hb.mono (by simp; omega)))
  have K3 := (Blk.new (w.alloc (.cells #[.int .i64 n, .int .i64 0, .int .i64 0, .int .i64 0, .slice none 0 0, .slice none 0 0] 90)) 90 #[.int .i64 n, .int .i64 0, .int .i64 0, .int .i64 0, .slice none 0 0, .slice none 0 0]).below' hb
  have K4 := (K2.out.below' ((Below.refl _ _).alloc (Nat.le_refl _) (.cells #[.int .i64 n, .int .i64 0, .int .i64 0, .int .i64 0, .slice none 0 0, .slice none 0 0] 90))).below' hb
  rw [World.size_alloc] at K3
  have z3 := K3.cell 5
  have z4 := K4.cell 5
  simp at z3 z4
  clear hb K3 K4 K2 B1
  go_wp2_with fail
  refine (equalI_any (a := []) (b := []) (A := none) (A' := none) (c := 0) (c' := 0) (w := w1) (B := 0) (B' := 0) ir_nil ir_nil (by decide)).mono ?_
  rintro e w2 ⟨rfl, m, rfl⟩
  clear z3 z4
  go_wp2
  go_ret
  exact ⟨rfl, B2.out.os, B2.out.tape, B2.out.output, B2.out.size, B2.out.block⟩
set_option maxRecDepth 100000 in
set_option maxHeartbeats 3200000 in
theorem walOpens_walk {w : World} (areas : Int) (ha0 : IntKind.min .i64 ≤ areas) (ha1 : areas ≤ IntKind.max .i64) (area : Int) (hb0 : IntKind.min .i64 ≤ area) (hb1 : area ≤ IntKind.max .i64) {A : Option Addr} {c : Nat} {sc : List Ws} (hs : kWs.Sl w w.heap.size A sc) (hf : (kSlice kWs).fits sc) :
    Calls Try.prog 15 #[.int .i64 areas, .int .i64 area, .slice A sc.length c] w (True_ w) := by
  have HS := Lib.hid hs
  have hl : sc.length ≤ 140737488355328 := by have := hf.1; unfold reachBytes at this; omega
  have ha0' : -9223372036854775808 ≤ areas := ha0
  have ha1' : areas ≤ 9223372036854775807 := ha1
  have hb0' : -9223372036854775808 ≤ area := hb0
  have hb1' : area ≤ 9223372036854775807 := hb1
  clear hs hf ha0 ha1 hb0 hb1
  go_enter Try.func15, Try.ntmps15
  go_wp2_with fail
  refine (lOpen_nil area).mono ?_
  rintro e w1 ⟨rfl, rfl⟩
  go_wp2_with fail
  refine walFixed_any.mono ?_
  rintro e w2 ⟨rfl, hb⟩
  have HB2 := Lib.hid hb
  clear hb
  obtain ⟨n0, hn0, hbits⟩ := and15 areas
  obtain ⟨n, hn⟩ : ∃ n : Nat, n = n0 + 1 := ⟨_, rfl⟩
  have hn1 : 1 ≤ n := by omega
  have hn16 : n ≤ 16 := by omega
  have hsum : (1 : Int) + (n0 : Int) = (n : Int) := by omega
  have hwr : IntKind.i64.wrap (n : Int) = (n : Int) := by rw [IntKind.wrap_i64]; omega
  clear hn ha0' ha1' hn0
  go_wp2_with fail
  refine (dNew_any (w := w2) n hn1 hn16).mono ?_
  rintro e w3 ⟨d, h1, h2, h3, rfl, t1⟩
  have T3 := Lib.hid (Turn.pre HB2.out t1)
  have HP := Lib.hid h3
  clear h1 h3 t1 HB2 hbits hsum hwr
  by_cases hout : area < 0 ∨ (n : Int) ≤ area
  · have HO := Lib.hid (lOpen_out T3.out.p (by omega) area (by rw [h2]; exact hout))
    have HBL := Lib.hid T3.out.free
    clear T3 HP h2
    by_cases hneg : area < 0
    · clear hout
      go_wp2_with fail
      refine HO.out.mono ?_
      rintro e w4 ⟨rfl, rfl⟩
      go_wp2
      go_loopw [76] (fun t wr => ∃ K : Nat, t = .int .i64 K ∧ K ≤ sc.length ∧ Hid (Below w.heap.size w wr)) (fun t _ => sc.length - (intOf t).toNat)
      case atStart => exact ⟨0, rfl, by omega, HBL⟩
      case round =>
        obtain ⟨K, rfl, hK, hB⟩ := hrel
        by_cases hlt : (K : Int) < (sc.length : Int)
        · have hKN : K < sc.length := by omega
          obtain ⟨bb, off, A1, A2, A3, c1, c2, c3, rfl, hbb, hints, s0, s1, s2, s3, s4, s5, _, _, _⟩ := ws_at (HS.out.below hB.out) hKN
          have hbr : bb < wr.heap.size := Nat.lt_of_lt_of_le hbb hB.out.size
          obtain ⟨x, hx⟩ : ∃ x, x = sc[K] := ⟨_, rfl⟩
          rw [← hx] at s0 s1 s2 s3 s4 s5 hints
          obtain ⟨k, ar, a, es, p, fs⟩ := x
          simp only at s0 s1 s2 s3 s4 s5
          obtain ⟨n1, hn1⟩ : ∃ n, n = es.length := ⟨_, rfl⟩
          obtain ⟨n2, hn2⟩ : ∃ n, n = p.length := ⟨_, rfl⟩
          obtain ⟨n3, hn3⟩ : ∃ n, n = fs.length := ⟨_, rfl⟩
          rw [← hn1] at s3
          rw [← hn2] at s4
          rw [← hn3] at s5
          have hi1 := hints.1.1
          have hi2 := hints.1.2
          have hKi : K + 1 ≤ sc.length := by omega
          have HBA := Lib.hid (hB.out.alloc hB.out.size (.cells #[.int .i64 k, .int .i64 ar, .int .i64 a, .slice A1 n1 c1, .slice A2 n2 c2, .slice A3 n3 c3] 88))
          simp only at hi1 hi2
          clear hx hn1 hn2 hn3 hints hbb
          by_cases hk0 : 0 ≤ k
          · by_cases hk6 : k ≤ 6
            · by_cases hk4 : k ≤ 4
              · have hE : kNil k = 1 := if_pos hk4
                go_upto_region 23 with fail
                obtain ⟨W, hW⟩ : ∃ W, W = (wr.alloc (.cells #[.int .i64 k, .int .i64 ar, .int .i64 a, .slice A1 n1 c1, .slice A2 n2 c2, .slice A3 n3 c3] 88)).alloc (.cells #[.int .i64 1, .int .i64 0, .int .i64 0, .int .i64 0, .slice none 0 0, .slice none 0 0] 90) := ⟨_, rfl⟩
                obtain ⟨g15, hg15⟩ : ∃ x, x = wr.heap.size := ⟨_, rfl⟩
                obtain ⟨g16, hg16⟩ : ∃ x, x = wr.heap.size + 1 := ⟨_, rfl⟩
                have K15 : Blk W g15 88 #[.int .i64 k, .int .i64 ar, .int .i64 a, .slice A1 n1 c1, .slice A2 n2 c2, .slice A3 n3 c3] := by rw [hW, hg15]; exact (Blk.new _ _ _).below' ((Below.refl _ _).alloc (Nat.le_refl _) _)
                have K16 : Blk W g16 90 #[.int .i64 1, .int .i64 0, .int .i64 0, .int .i64 0, .slice none 0 0, .slice none 0 0] := by
                  have h := Blk.new (wr.alloc (.cells #[.int .i64 k, .int .i64 ar, .int .i64 a, .slice A1 n1 c1, .slice A2 n2 c2, .slice A3 n3 c3] 88)) 90 #[.int .i64 1, .int .i64 0, .int .i64 0, .int .i64 0, .slice none 0 0, .slice none 0 0]
                  rw [World.size_alloc] at h
                  rw [hW, hg16]; exact h
                have HBW := Lib.hid (show Below w.heap.size w W.drew from by rw [hW]; exact (((hB.out.alloc hB.out.size _).alloc (by have := hB.out.size; simp; omega) _)).drew)
                rw [← hW, ← hg16, ← hg15]
                have hl15 : g15 < W.drew.heap.size := K15.lt
                have hl16 : g16 < W.drew.heap.size := K16.lt
                have y0 := (Blk.cell K15 0)
                have y1 := (Blk.cell K15 1)
                have y2 := (Blk.cell K15 2)
                have y3 := (Blk.cell K15 3)
                have y4 := (Blk.cell K15 4)
                have y5 := (Blk.cell K15 5)
                have y6 := (Blk.cell K16 0)
                have y7 := (Blk.cell K16 1)
                have y8 := (Blk.cell K16 2)
                have y9 := (Blk.cell K16 3)
                have y10 := (Blk.cell K16 4)
                have y11 := (Blk.cell K16 5)
                simp at y0 y1 y2 y3 y4 y5 y6 y7 y8 y9 y10 y11
                clear hW hg15 hg16 K15 K16
                go_wp2_with fail
                go_region_held3 (fun w' => w'.cell? ⟨g15, 0, none⟩ = some (.int .i64 k) ∧ w'.cell? ⟨g15, 1, none⟩ = some (.int .i64 ar) ∧ w'.cell? ⟨g15, 2, none⟩ = some (.int .i64 a) ∧ w'.cell? ⟨g15, 3, none⟩ = some (.slice A1 n1 c1) ∧ w'.cell? ⟨g15, 4, none⟩ = some (.slice A2 n2 c2) ∧ w'.cell? ⟨g15, 5, none⟩ = some (.slice A3 n3 c3) ∧ w'.cell? ⟨g16, 0, none⟩ = some (.int .i64 1) ∧ w'.cell? ⟨g16, 1, none⟩ = some (.int .i64 0) ∧ w'.cell? ⟨g16, 2, none⟩ = some (.int .i64 0) ∧ w'.cell? ⟨g16, 3, none⟩ = some (.int .i64 0) ∧ w'.cell? ⟨g16, 4, none⟩ = some (.slice none 0 0) ∧ w'.cell? ⟨g16, 5, none⟩ = some (.slice none 0 0)) (first | (with_reducible exact ⟨y0, y1, y2, y3, y4, y5, y6, y7, y8, y9, y10, y11⟩) | (with_reducible exact ⟨z0, z1, z2, z3, z4, z5, z6, z7, z8, z9, z10, z11⟩) | (with_reducible exact ⟨v0, v1, v2, v3, v4, v5, v6, v7, v8, v9, v10, v11⟩) | go_keep) (first | (go_at_call 54; refine (nCall (v := .pointer (some ⟨d.g, 0, none⟩)) k ar a hk0 hk6 (A1 := A1) (A2 := A2) (A3 := A3) (n1 := n1) (n2 := n2) (n3 := n3) (c1 := c1) (c2 := c2) (c3 := c3)).mono ?_; rw [hE]; rintro e w4 ⟨rfl, hb⟩; have HB4 := Lib.hid (HBW.out.trans (hb.mono HBW.out.size)); have z0 := (hb.cell (p := ⟨g15, 0, none⟩) hl15).trans y0; have z1 := (hb.cell (p := ⟨g15, 1, none⟩) hl15).trans y1; have z2 := (hb.cell (p := ⟨g15, 2, none⟩) hl15).trans y2; have z3 := (hb.cell (p := ⟨g15, 3, none⟩) hl15).trans y3; have z4 := (hb.cell (p := ⟨g15, 4, none⟩) hl15).trans y4; have z5 := (hb.cell (p := ⟨g15, 5, none⟩) hl15).trans y5; have z6 := (hb.cell (p := ⟨g16, 0, none⟩) hl16).trans y6; have z7 := (hb.cell (p := ⟨g16, 1, none⟩) hl16).trans y7; have z8 := (hb.cell (p := ⟨g16, 2, none⟩) hl16).trans y8; have z9 := (hb.cell (p := ⟨g16, 3, none⟩) hl16).trans y9; have z10 := (hb.cell (p := ⟨g16, 4, none⟩) hl16).trans y10; have z11 := (hb.cell (p := ⟨g16, 5, none⟩) hl16).trans y11; have hsz4 := hb.size; clear hb) | (go_at_call 53; refine (alike_nil (n := 1)).mono ?_; rintro e w5 ⟨rfl, hb⟩; have HB5 := Lib.hid (HB4.out.trans (hb.mono HB4.out.size)); replace hl15 := Nat.lt_of_lt_of_le hl15 hsz4; replace hl16 := Nat.lt_of_lt_of_le hl16 hsz4; have v0 := (hb.cell (p := ⟨g15, 0, none⟩) hl15).trans z0; have v1 := (hb.cell (p := ⟨g15, 1, none⟩) hl15).trans z1; have v2 := (hb.cell (p := ⟨g15, 2, none⟩) hl15).trans z2; have v3 := (hb.cell (p := ⟨g15, 3, none⟩) hl15).trans z3; have v4 := (hb.cell (p := ⟨g15, 4, none⟩) hl15).trans z4; have v5 := (hb.cell (p := ⟨g15, 5, none⟩) hl15).trans z5; have v6 := (hb.cell (p := ⟨g16, 0, none⟩) hl16).trans z6; have v7 := (hb.cell (p := ⟨g16, 1, none⟩) hl16).trans z7; have v8 := (hb.cell (p := ⟨g16, 2, none⟩) hl16).trans z8; have v9 := (hb.cell (p := ⟨g16, 3, none⟩) hl16).trans z9; have v10 := (hb.cell (p := ⟨g16, 4, none⟩) hl16).trans z10; have v11 := (hb.cell (p := ⟨g16, 5, none⟩) hl16).trans z11; clear hb))
                go_wp2
                exact ⟨⟨K + 1, by go_num, hKi, HB5⟩, by simp [intOf]; omega⟩
              · have hE : kNil k = 0 := if_neg hk4
                go_upto_region 23 with fail
                obtain ⟨W, hW⟩ : ∃ W, W = (wr.alloc (.cells #[.int .i64 k, .int .i64 ar, .int .i64 a, .slice A1 n1 c1, .slice A2 n2 c2, .slice A3 n3 c3] 88)).alloc (.cells #[.int .i64 0, .int .i64 0, .int .i64 0, .int .i64 0, .slice none 0 0, .slice none 0 0] 90) := ⟨_, rfl⟩
                obtain ⟨g15, hg15⟩ : ∃ x, x = wr.heap.size := ⟨_, rfl⟩
                obtain ⟨g16, hg16⟩ : ∃ x, x = wr.heap.size + 1 := ⟨_, rfl⟩
                have K15 : Blk W g15 88 #[.int .i64 k, .int .i64 ar, .int .i64 a, .slice A1 n1 c1, .slice A2 n2 c2, .slice A3 n3 c3] := by rw [hW, hg15]; exact (Blk.new _ _ _).below' ((Below.refl _ _).alloc (Nat.le_refl _) _)
                have K16 : Blk W g16 90 #[.int .i64 0, .int .i64 0, .int .i64 0, .int .i64 0, .slice none 0 0, .slice none 0 0] := by
                  have h := Blk.new (wr.alloc (.cells #[.int .i64 k, .int .i64 ar, .int .i64 a, .slice A1 n1 c1, .slice A2 n2 c2, .slice A3 n3 c3] 88)) 90 #[.int .i64 0, .int .i64 0, .int .i64 0, .int .i64 0, .slice none 0 0, .slice none 0 0]
                  rw [World.size_alloc] at h
                  rw [hW, hg16]; exact h
                have HBW := Lib.hid (show Below w.heap.size w W.drew from by rw [hW]; exact (((hB.out.alloc hB.out.size _).alloc (by have := hB.out.size; simp; omega) _)).drew)
                rw [← hW, ← hg16, ← hg15]
                have hl15 : g15 < W.drew.heap.size := K15.lt
                have hl16 : g16 < W.drew.heap.size := K16.lt
                have y0 := (Blk.cell K15 0)
                have y1 := (Blk.cell K15 1)
                have y2 := (Blk.cell K15 2)
                have y3 := (Blk.cell K15 3)
                have y4 := (Blk.cell K15 4)
                have y5 := (Blk.cell K15 5)
                have y6 := (Blk.cell K16 0)
                have y7 := (Blk.cell K16 1)
                have y8 := (Blk.cell K16 2)
                have y9 := (Blk.cell K16 3)
                have y10 := (Blk.cell K16 4)
                have y11 := (Blk.cell K16 5)
                simp at y0 y1 y2 y3 y4 y5 y6 y7 y8 y9 y10 y11
                clear hW hg15 hg16 K15 K16
                go_wp2_with fail
                go_region_held3 (fun w' => w'.cell? ⟨g15, 0, none⟩ = some (.int .i64 k) ∧ w'.cell? ⟨g15, 1, none⟩ = some (.int .i64 ar) ∧ w'.cell? ⟨g15, 2, none⟩ = some (.int .i64 a) ∧ w'.cell? ⟨g15, 3, none⟩ = some (.slice A1 n1 c1) ∧ w'.cell? ⟨g15, 4, none⟩ = some (.slice A2 n2 c2) ∧ w'.cell? ⟨g15, 5, none⟩ = some (.slice A3 n3 c3) ∧ w'.cell? ⟨g16, 0, none⟩ = some (.int .i64 0) ∧ w'.cell? ⟨g16, 1, none⟩ = some (.int .i64 0) ∧ w'.cell? ⟨g16, 2, none⟩ = some (.int .i64 0) ∧ w'.cell? ⟨g16, 3, none⟩ = some (.int .i64 0) ∧ w'.cell? ⟨g16, 4, none⟩ = some (.slice none 0 0) ∧ w'.cell? ⟨g16, 5, none⟩ = some (.slice none 0 0)) (first | (with_reducible exact ⟨y0, y1, y2, y3, y4, y5, y6, y7, y8, y9, y10, y11⟩) | (with_reducible exact ⟨z0, z1, z2, z3, z4, z5, z6, z7, z8, z9, z10, z11⟩) | (with_reducible exact ⟨v0, v1, v2, v3, v4, v5, v6, v7, v8, v9, v10, v11⟩) | go_keep) (first | (go_at_call 54; refine (nCall (v := .pointer (some ⟨d.g, 0, none⟩)) k ar a hk0 hk6 (A1 := A1) (A2 := A2) (A3 := A3) (n1 := n1) (n2 := n2) (n3 := n3) (c1 := c1) (c2 := c2) (c3 := c3)).mono ?_; rw [hE]; rintro e w4 ⟨rfl, hb⟩; have HB4 := Lib.hid (HBW.out.trans (hb.mono HBW.out.size)); have z0 := (hb.cell (p := ⟨g15, 0, none⟩) hl15).trans y0; have z1 := (hb.cell (p := ⟨g15, 1, none⟩) hl15).trans y1; have z2 := (hb.cell (p := ⟨g15, 2, none⟩) hl15).trans y2; have z3 := (hb.cell (p := ⟨g15, 3, none⟩) hl15).trans y3; have z4 := (hb.cell (p := ⟨g15, 4, none⟩) hl15).trans y4; have z5 := (hb.cell (p := ⟨g15, 5, none⟩) hl15).trans y5; have z6 := (hb.cell (p := ⟨g16, 0, none⟩) hl16).trans y6; have z7 := (hb.cell (p := ⟨g16, 1, none⟩) hl16).trans y7; have z8 := (hb.cell (p := ⟨g16, 2, none⟩) hl16).trans y8; have z9 := (hb.cell (p := ⟨g16, 3, none⟩) hl16).trans y9; have z10 := (hb.cell (p := ⟨g16, 4, none⟩) hl16).trans y10; have z11 := (hb.cell (p := ⟨g16, 5, none⟩) hl16).trans y11; have hsz4 := hb.size; clear hb) | (go_at_call 53; refine (alike_nil (n := 0)).mono ?_; rintro e w5 ⟨rfl, hb⟩; have HB5 := Lib.hid (HB4.out.trans (hb.mono HB4.out.size)); replace hl15 := Nat.lt_of_lt_of_le hl15 hsz4; replace hl16 := Nat.lt_of_lt_of_le hl16 hsz4; have v0 := (hb.cell (p := ⟨g15, 0, none⟩) hl15).trans z0; have v1 := (hb.cell (p := ⟨g15, 1, none⟩) hl15).trans z1; have v2 := (hb.cell (p := ⟨g15, 2, none⟩) hl15).trans z2; have v3 := (hb.cell (p := ⟨g15, 3, none⟩) hl15).trans z3; have v4 := (hb.cell (p := ⟨g15, 4, none⟩) hl15).trans z4; have v5 := (hb.cell (p := ⟨g15, 5, none⟩) hl15).trans z5; have v6 := (hb.cell (p := ⟨g16, 0, none⟩) hl16).trans z6; have v7 := (hb.cell (p := ⟨g16, 1, none⟩) hl16).trans z7; have v8 := (hb.cell (p := ⟨g16, 2, none⟩) hl16).trans z8; have v9 := (hb.cell (p := ⟨g16, 3, none⟩) hl16).trans z9; have v10 := (hb.cell (p := ⟨g16, 4, none⟩) hl16).trans z10; have v11 := (hb.cell (p := ⟨g16, 5, none⟩) hl16).trans z11; clear hb))
                go_wp2
                exact ⟨⟨K + 1, by go_num, hKi, HB5⟩, by simp [intOf]; omega⟩
            · have hk6' : 6 < k := by omega
              go_wp2
              exact ⟨⟨K + 1, by go_num, hKi, HBA⟩, by simp [intOf]; omega⟩
          · have hk0' : k < 0 := by omega
            go_wp2
            exact ⟨⟨K + 1, by go_num, hKi, HBA⟩, by simp [intOf]; omega⟩
        · obtain rfl : K = sc.length := by omega
          go_wp2
          go_ret
          exact ⟨rfl, hB.out⟩
    · have hge : (n : Int) ≤ area := by omega
      clear hout
      go_wp2_with fail
      refine HO.out.mono ?_
      rintro e w4 ⟨rfl, rfl⟩
      go_wp2
      go_loopw [76] (fun t wr => ∃ K : Nat, t = .int .i64 K ∧ K ≤ sc.length ∧ Hid (Below w.heap.size w wr)) (fun t _ => sc.length - (intOf t).toNat)
      case atStart => exact ⟨0, rfl, by omega, HBL⟩
      case round =>
        obtain ⟨K, rfl, hK, hB⟩ := hrel
        by_cases hlt : (K : Int) < (sc.length : Int)
        · have hKN : K < sc.length := by omega
          obtain ⟨bb, off, A1, A2, A3, c1, c2, c3, rfl, hbb, hints, s0, s1, s2, s3, s4, s5, _, _, _⟩ := ws_at (HS.out.below hB.out) hKN
          have hbr : bb < wr.heap.size := Nat.lt_of_lt_of_le hbb hB.out.size
          obtain ⟨x, hx⟩ : ∃ x, x = sc[K] := ⟨_, rfl⟩
          rw [← hx] at s0 s1 s2 s3 s4 s5 hints
          obtain ⟨k, ar, a, es, p, fs⟩ := x
          simp only at s0 s1 s2 s3 s4 s5
          obtain ⟨n1, hn1⟩ : ∃ n, n = es.length := ⟨_, rfl⟩
          obtain ⟨n2, hn2⟩ : ∃ n, n = p.length := ⟨_, rfl⟩
          obtain ⟨n3, hn3⟩ : ∃ n, n = fs.length := ⟨_, rfl⟩
          rw [← hn1] at s3
          rw [← hn2] at s4
          rw [← hn3] at s5
          have hi1 := hints.1.1
          have hi2 := hints.1.2
          have hKi : K + 1 ≤ sc.length := by omega
          have HBA := Lib.hid (hB.out.alloc hB.out.size (.cells #[.int .i64 k, .int .i64 ar, .int .i64 a, .slice A1 n1 c1, .slice A2 n2 c2, .slice A3 n3 c3] 88))
          simp only at hi1 hi2
          clear hx hn1 hn2 hn3 hints hbb
          by_cases hk0 : 0 ≤ k
          · by_cases hk6 : k ≤ 6
            · by_cases hk4 : k ≤ 4
              · have hE : kNil k = 1 := if_pos hk4
                go_upto_region 23 with fail
                obtain ⟨W, hW⟩ : ∃ W, W = (wr.alloc (.cells #[.int .i64 k, .int .i64 ar, .int .i64 a, .slice A1 n1 c1, .slice A2 n2 c2, .slice A3 n3 c3] 88)).alloc (.cells #[.int .i64 1, .int .i64 0, .int .i64 0, .int .i64 0, .slice none 0 0, .slice none 0 0] 90) := ⟨_, rfl⟩
                obtain ⟨g15, hg15⟩ : ∃ x, x = wr.heap.size := ⟨_, rfl⟩
                obtain ⟨g16, hg16⟩ : ∃ x, x = wr.heap.size + 1 := ⟨_, rfl⟩
                have K15 : Blk W g15 88 #[.int .i64 k, .int .i64 ar, .int .i64 a, .slice A1 n1 c1, .slice A2 n2 c2, .slice A3 n3 c3] := by rw [hW, hg15]; exact (Blk.new _ _ _).below' ((Below.refl _ _).alloc (Nat.le_refl _) _)
                have K16 : Blk W g16 90 #[.int .i64 1, .int .i64 0, .int .i64 0, .int .i64 0, .slice none 0 0, .slice none 0 0] := by
                  have h := Blk.new (wr.alloc (.cells #[.int .i64 k, .int .i64 ar, .int .i64 a, .slice A1 n1 c1, .slice A2 n2 c2, .slice A3 n3 c3] 88)) 90 #[.int .i64 1, .int .i64 0, .int .i64 0, .int .i64 0, .slice none 0 0, .slice none 0 0]
                  rw [World.size_alloc] at h
                  rw [hW, hg16]; exact h
                have HBW := Lib.hid (show Below w.heap.size w W.drew from by rw [hW]; exact (((hB.out.alloc hB.out.size _).alloc (by have := hB.out.size; simp; omega) _)).drew)
                rw [← hW, ← hg16, ← hg15]
                have hl15 : g15 < W.drew.heap.size := K15.lt
                have hl16 : g16 < W.drew.heap.size := K16.lt
                have y0 := (Blk.cell K15 0)
                have y1 := (Blk.cell K15 1)
                have y2 := (Blk.cell K15 2)
                have y3 := (Blk.cell K15 3)
                have y4 := (Blk.cell K15 4)
                have y5 := (Blk.cell K15 5)
                have y6 := (Blk.cell K16 0)
                have y7 := (Blk.cell K16 1)
                have y8 := (Blk.cell K16 2)
                have y9 := (Blk.cell K16 3)
                have y10 := (Blk.cell K16 4)
                have y11 := (Blk.cell K16 5)
                simp at y0 y1 y2 y3 y4 y5 y6 y7 y8 y9 y10 y11
                clear hW hg15 hg16 K15 K16
                go_wp2_with fail
                go_region_held3 (fun w' => w'.cell? ⟨g15, 0, none⟩ = some (.int .i64 k) ∧ w'.cell? ⟨g15, 1, none⟩ = some (.int .i64 ar) ∧ w'.cell? ⟨g15, 2, none⟩ = some (.int .i64 a) ∧ w'.cell? ⟨g15, 3, none⟩ = some (.slice A1 n1 c1) ∧ w'.cell? ⟨g15, 4, none⟩ = some (.slice A2 n2 c2) ∧ w'.cell? ⟨g15, 5, none⟩ = some (.slice A3 n3 c3) ∧ w'.cell? ⟨g16, 0, none⟩ = some (.int .i64 1) ∧ w'.cell? ⟨g16, 1, none⟩ = some (.int .i64 0) ∧ w'.cell? ⟨g16, 2, none⟩ = some (.int .i64 0) ∧ w'.cell? ⟨g16, 3, none⟩ = some (.int .i64 0) ∧ w'.cell? ⟨g16, 4, none⟩ = some (.slice none 0 0) ∧ w'.cell? ⟨g16, 5, none⟩ = some (.slice none 0 0)) (first | (with_reducible exact ⟨y0, y1, y2, y3, y4, y5, y6, y7, y8, y9, y10, y11⟩) | (with_reducible exact ⟨z0, z1, z2, z3, z4, z5, z6, z7, z8, z9, z10, z11⟩) | (with_reducible exact ⟨v0, v1, v2, v3, v4, v5, v6, v7, v8, v9, v10, v11⟩) | go_keep) (first | (go_at_call 54; refine (nCall (v := .pointer (some ⟨d.g, 0, none⟩)) k ar a hk0 hk6 (A1 := A1) (A2 := A2) (A3 := A3) (n1 := n1) (n2 := n2) (n3 := n3) (c1 := c1) (c2 := c2) (c3 := c3)).mono ?_; rw [hE]; rintro e w4 ⟨rfl, hb⟩; have HB4 := Lib.hid (HBW.out.trans (hb.mono HBW.out.size)); have z0 := (hb.cell (p := ⟨g15, 0, none⟩) hl15).trans y0; have z1 := (hb.cell (p := ⟨g15, 1, none⟩) hl15).trans y1; have z2 := (hb.cell (p := ⟨g15, 2, none⟩) hl15).trans y2; have z3 := (hb.cell (p := ⟨g15, 3, none⟩) hl15).trans y3; have z4 := (hb.cell (p := ⟨g15, 4, none⟩) hl15).trans y4; have z5 := (hb.cell (p := ⟨g15, 5, none⟩) hl15).trans y5; have z6 := (hb.cell (p := ⟨g16, 0, none⟩) hl16).trans y6; have z7 := (hb.cell (p := ⟨g16, 1, none⟩) hl16).trans y7; have z8 := (hb.cell (p := ⟨g16, 2, none⟩) hl16).trans y8; have z9 := (hb.cell (p := ⟨g16, 3, none⟩) hl16).trans y9; have z10 := (hb.cell (p := ⟨g16, 4, none⟩) hl16).trans y10; have z11 := (hb.cell (p := ⟨g16, 5, none⟩) hl16).trans y11; have hsz4 := hb.size; clear hb) | (go_at_call 53; refine (alike_nil (n := 1)).mono ?_; rintro e w5 ⟨rfl, hb⟩; have HB5 := Lib.hid (HB4.out.trans (hb.mono HB4.out.size)); replace hl15 := Nat.lt_of_lt_of_le hl15 hsz4; replace hl16 := Nat.lt_of_lt_of_le hl16 hsz4; have v0 := (hb.cell (p := ⟨g15, 0, none⟩) hl15).trans z0; have v1 := (hb.cell (p := ⟨g15, 1, none⟩) hl15).trans z1; have v2 := (hb.cell (p := ⟨g15, 2, none⟩) hl15).trans z2; have v3 := (hb.cell (p := ⟨g15, 3, none⟩) hl15).trans z3; have v4 := (hb.cell (p := ⟨g15, 4, none⟩) hl15).trans z4; have v5 := (hb.cell (p := ⟨g15, 5, none⟩) hl15).trans z5; have v6 := (hb.cell (p := ⟨g16, 0, none⟩) hl16).trans z6; have v7 := (hb.cell (p := ⟨g16, 1, none⟩) hl16).trans z7; have v8 := (hb.cell (p := ⟨g16, 2, none⟩) hl16).trans z8; have v9 := (hb.cell (p := ⟨g16, 3, none⟩) hl16).trans z9; have v10 := (hb.cell (p := ⟨g16, 4, none⟩) hl16).trans z10; have v11 := (hb.cell (p := ⟨g16, 5, none⟩) hl16).trans z11; clear hb))
                go_wp2
                exact ⟨⟨K + 1, by go_num, hKi, HB5⟩, by simp [intOf]; omega⟩
              · have hE : kNil k = 0 := if_neg hk4
                go_upto_region 23 with fail
                obtain ⟨W, hW⟩ : ∃ W, W = (wr.alloc (.cells #[.int .i64 k, .int .i64 ar, .int .i64 a, .slice A1 n1 c1, .slice A2 n2 c2, .slice A3 n3 c3] 88)).alloc (.cells #[.int .i64 0, .int .i64 0, .int .i64 0, .int .i64 0, .slice none 0 0, .slice none 0 0] 90) := ⟨_, rfl⟩
                obtain ⟨g15, hg15⟩ : ∃ x, x = wr.heap.size := ⟨_, rfl⟩
                obtain ⟨g16, hg16⟩ : ∃ x, x = wr.heap.size + 1 := ⟨_, rfl⟩
                have K15 : Blk W g15 88 #[.int .i64 k, .int .i64 ar, .int .i64 a, .slice A1 n1 c1, .slice A2 n2 c2, .slice A3 n3 c3] := by rw [hW, hg15]; exact (Blk.new _ _ _).below' ((Below.refl _ _).alloc (Nat.le_refl _) _)
                have K16 : Blk W g16 90 #[.int .i64 0, .int .i64 0, .int .i64 0, .int .i64 0, .slice none 0 0, .slice none 0 0] := by
                  have h := Blk.new (wr.alloc (.cells #[.int .i64 k, .int .i64 ar, .int .i64 a, .slice A1 n1 c1, .slice A2 n2 c2, .slice A3 n3 c3] 88)) 90 #[.int .i64 0, .int .i64 0, .int .i64 0, .int .i64 0, .slice none 0 0, .slice none 0 0]
                  rw [World.size_alloc] at h
                  rw [hW, hg16]; exact h
                have HBW := Lib.hid (show Below w.heap.size w W.drew from by rw [hW]; exact (((hB.out.alloc hB.out.size _).alloc (by have := hB.out.size; simp; omega) _)).drew)
                rw [← hW, ← hg16, ← hg15]
                have hl15 : g15 < W.drew.heap.size := K15.lt
                have hl16 : g16 < W.drew.heap.size := K16.lt
                have y0 := (Blk.cell K15 0)
                have y1 := (Blk.cell K15 1)
                have y2 := (Blk.cell K15 2)
                have y3 := (Blk.cell K15 3)
                have y4 := (Blk.cell K15 4)
                have y5 := (Blk.cell K15 5)
                have y6 := (Blk.cell K16 0)
                have y7 := (Blk.cell K16 1)
                have y8 := (Blk.cell K16 2)
                have y9 := (Blk.cell K16 3)
                have y10 := (Blk.cell K16 4)
                have y11 := (Blk.cell K16 5)
                simp at y0 y1 y2 y3 y4 y5 y6 y7 y8 y9 y10 y11
                clear hW hg15 hg16 K15 K16
                go_wp2_with fail
                go_region_held3 (fun w' => w'.cell? ⟨g15, 0, none⟩ = some (.int .i64 k) ∧ w'.cell? ⟨g15, 1, none⟩ = some (.int .i64 ar) ∧ w'.cell? ⟨g15, 2, none⟩ = some (.int .i64 a) ∧ w'.cell? ⟨g15, 3, none⟩ = some (.slice A1 n1 c1) ∧ w'.cell? ⟨g15, 4, none⟩ = some (.slice A2 n2 c2) ∧ w'.cell? ⟨g15, 5, none⟩ = some (.slice A3 n3 c3) ∧ w'.cell? ⟨g16, 0, none⟩ = some (.int .i64 0) ∧ w'.cell? ⟨g16, 1, none⟩ = some (.int .i64 0) ∧ w'.cell? ⟨g16, 2, none⟩ = some (.int .i64 0) ∧ w'.cell? ⟨g16, 3, none⟩ = some (.int .i64 0) ∧ w'.cell? ⟨g16, 4, none⟩ = some (.slice none 0 0) ∧ w'.cell? ⟨g16, 5, none⟩ = some (.slice none 0 0)) (first | (with_reducible exact ⟨y0, y1, y2, y3, y4, y5, y6, y7, y8, y9, y10, y11⟩) | (with_reducible exact ⟨z0, z1, z2, z3, z4, z5, z6, z7, z8, z9, z10, z11⟩) | (with_reducible exact ⟨v0, v1, v2, v3, v4, v5, v6, v7, v8, v9, v10, v11⟩) | go_keep) (first | (go_at_call 54; refine (nCall (v := .pointer (some ⟨d.g, 0, none⟩)) k ar a hk0 hk6 (A1 := A1) (A2 := A2) (A3 := A3) (n1 := n1) (n2 := n2) (n3 := n3) (c1 := c1) (c2 := c2) (c3 := c3)).mono ?_; rw [hE]; rintro e w4 ⟨rfl, hb⟩; have HB4 := Lib.hid (HBW.out.trans (hb.mono HBW.out.size)); have z0 := (hb.cell (p := ⟨g15, 0, none⟩) hl15).trans y0; have z1 := (hb.cell (p := ⟨g15, 1, none⟩) hl15).trans y1; have z2 := (hb.cell (p := ⟨g15, 2, none⟩) hl15).trans y2; have z3 := (hb.cell (p := ⟨g15, 3, none⟩) hl15).trans y3; have z4 := (hb.cell (p := ⟨g15, 4, none⟩) hl15).trans y4; have z5 := (hb.cell (p := ⟨g15, 5, none⟩) hl15).trans y5; have z6 := (hb.cell (p := ⟨g16, 0, none⟩) hl16).trans y6; have z7 := (hb.cell (p := ⟨g16, 1, none⟩) hl16).trans y7; have z8 := (hb.cell (p := ⟨g16, 2, none⟩) hl16).trans y8; have z9 := (hb.cell (p := ⟨g16, 3, none⟩) hl16).trans y9; have z10 := (hb.cell (p := ⟨g16, 4, none⟩) hl16).trans y10; have z11 := (hb.cell (p := ⟨g16, 5, none⟩) hl16).trans y11; have hsz4 := hb.size; clear hb) | (go_at_call 53; refine (alike_nil (n := 0)).mono ?_; rintro e w5 ⟨rfl, hb⟩; have HB5 := Lib.hid (HB4.out.trans (hb.mono HB4.out.size)); replace hl15 := Nat.lt_of_lt_of_le hl15 hsz4; replace hl16 := Nat.lt_of_lt_of_le hl16 hsz4; have v0 := (hb.cell (p := ⟨g15, 0, none⟩) hl15).trans z0; have v1 := (hb.cell (p := ⟨g15, 1, none⟩) hl15).trans z1; have v2 := (hb.cell (p := ⟨g15, 2, none⟩) hl15).trans z2; have v3 := (hb.cell (p := ⟨g15, 3, none⟩) hl15).trans z3; have v4 := (hb.cell (p := ⟨g15, 4, none⟩) hl15).trans z4; have v5 := (hb.cell (p := ⟨g15, 5, none⟩) hl15).trans z5; have v6 := (hb.cell (p := ⟨g16, 0, none⟩) hl16).trans z6; have v7 := (hb.cell (p := ⟨g16, 1, none⟩) hl16).trans z7; have v8 := (hb.cell (p := ⟨g16, 2, none⟩) hl16).trans z8; have v9 := (hb.cell (p := ⟨g16, 3, none⟩) hl16).trans z9; have v10 := (hb.cell (p := ⟨g16, 4, none⟩) hl16).trans z10; have v11 := (hb.cell (p := ⟨g16, 5, none⟩) hl16).trans z11; clear hb))
                go_wp2
                exact ⟨⟨K + 1, by go_num, hKi, HB5⟩, by simp [intOf]; omega⟩
            · have hk6' : 6 < k := by omega
              go_wp2
              exact ⟨⟨K + 1, by go_num, hKi, HBA⟩, by simp [intOf]; omega⟩
          · have hk0' : k < 0 := by omega
            go_wp2
            exact ⟨⟨K + 1, by go_num, hKi, HBA⟩, by simp [intOf]; omega⟩
        · obtain rfl : K = sc.length := by omega
          go_wp2
          go_ret
          exact ⟨rfl, hB.out⟩
  · obtain ⟨i, hi⟩ : ∃ i : Nat, area = i := ⟨area.toNat, by omega⟩
    subst hi
    have hin : i < d.ps.length := by omega
    have hini : (i : Int) < (n : Int) := by omega
    have hp := HP.out _ (List.getElem_mem hin)
    obtain ⟨p, hpe⟩ : ∃ p, p = d.ps[i] := ⟨_, rfl⟩
    rw [← hpe] at hp
    have hget : d.ps[i]? = some p := by rw [hpe]; exact List.getElem?_eq_getElem hin
    have HO := Lib.hid (lOpen_any T3.out.p (by omega) i hget (by rw [hp]; simp [freshPt]) (by rw [hp]; simp [freshPt]) (by rw [hp]; simp [freshPt]) (by rw [hp]; simp [freshPt]))
    have hd0 : p.done = 0 := by rw [hp]; rfl
    have HG := Lib.hid hget
    have HD16 := Lib.hid (show d.ps.length ≤ 16 by omega)
    clear HP h2 hout hp hpe hget hin
    go_wp2_with fail
    refine HO.out.mono ?_
    rintro e w4 ⟨gl, hgl, rfl, _, hb⟩
    have T4 := Lib.hid (T3.out.go hb)
    clear HO T3 hb hgl
    go_wp2_with fail
    refine (dDone_any T4.out.p HD16.out i HG.out).mono ?_
    rintro e w5 ⟨rfl, rfl⟩
    rw [hd0]
    have HBL := Lib.hid T4.out.free
    clear T4 HG hd0
    go_wp2
    go_loopw [76] (fun t wr => ∃ K : Nat, t = .int .i64 K ∧ K ≤ sc.length ∧ Hid (Below w.heap.size w wr)) (fun t _ => sc.length - (intOf t).toNat)
    case atStart => exact ⟨0, rfl, by omega, HBL⟩
    case round =>
      obtain ⟨K, rfl, hK, hB⟩ := hrel
      by_cases hlt : (K : Int) < (sc.length : Int)
      · have hKN : K < sc.length := by omega
        obtain ⟨bb, off, A1, A2, A3, c1, c2, c3, rfl, hbb, hints, s0, s1, s2, s3, s4, s5, _, _, _⟩ := ws_at (HS.out.below hB.out) hKN
        have hbr : bb < wr.heap.size := Nat.lt_of_lt_of_le hbb hB.out.size
        obtain ⟨x, hx⟩ : ∃ x, x = sc[K] := ⟨_, rfl⟩
        rw [← hx] at s0 s1 s2 s3 s4 s5 hints
        obtain ⟨k, ar, a, es, p, fs⟩ := x
        simp only at s0 s1 s2 s3 s4 s5
        obtain ⟨n1, hn1⟩ : ∃ n, n = es.length := ⟨_, rfl⟩
        obtain ⟨n2, hn2⟩ : ∃ n, n = p.length := ⟨_, rfl⟩
        obtain ⟨n3, hn3⟩ : ∃ n, n = fs.length := ⟨_, rfl⟩
        rw [← hn1] at s3
        rw [← hn2] at s4
        rw [← hn3] at s5
        have hi1 := hints.1.1
        have hi2 := hints.1.2
        have hKi : K + 1 ≤ sc.length := by omega
        have HBA := Lib.hid (hB.out.alloc hB.out.size (.cells #[.int .i64 k, .int .i64 ar, .int .i64 a, .slice A1 n1 c1, .slice A2 n2 c2, .slice A3 n3 c3] 88))
        simp only at hi1 hi2
        clear hx hn1 hn2 hn3 hints hbb
        by_cases hk0 : 0 ≤ k
        · by_cases hk6 : k ≤ 6
          · by_cases hk4 : k ≤ 4
            · have hE : kNil k = 1 := if_pos hk4
              go_upto_region 23 with fail
              obtain ⟨W, hW⟩ : ∃ W, W = (wr.alloc (.cells #[.int .i64 k, .int .i64 ar, .int .i64 a, .slice A1 n1 c1, .slice A2 n2 c2, .slice A3 n3 c3] 88)).alloc (.cells #[.int .i64 1, .int .i64 0, .int .i64 0, .int .i64 0, .slice none 0 0, .slice none 0 0] 90) := ⟨_, rfl⟩
              obtain ⟨g15, hg15⟩ : ∃ x, x = wr.heap.size := ⟨_, rfl⟩
              obtain ⟨g16, hg16⟩ : ∃ x, x = wr.heap.size + 1 := ⟨_, rfl⟩
              have K15 : Blk W g15 88 #[.int .i64 k, .int .i64 ar, .int .i64 a, .slice A1 n1 c1, .slice A2 n2 c2, .slice A3 n3 c3] := by rw [hW, hg15]; exact (Blk.new _ _ _).below' ((Below.refl _ _).alloc (Nat.le_refl _) _)
              have K16 : Blk W g16 90 #[.int .i64 1, .int .i64 0, .int .i64 0, .int .i64 0, .slice none 0 0, .slice none 0 0] := by
                have h := Blk.new (wr.alloc (.cells #[.int .i64 k, .int .i64 ar, .int .i64 a, .slice A1 n1 c1, .slice A2 n2 c2, .slice A3 n3 c3] 88)) 90 #[.int .i64 1, .int .i64 0, .int .i64 0, .int .i64 0, .slice none 0 0, .slice none 0 0]
                rw [World.size_alloc] at h
                rw [hW, hg16]; exact h
              have HBW := Lib.hid (show Below w.heap.size w W.drew from by rw [hW]; exact (((hB.out.alloc hB.out.size _).alloc (by have := hB.out.size; simp; omega) _)).drew)
              rw [← hW, ← hg16, ← hg15]
              have hl15 : g15 < W.drew.heap.size := K15.lt
              have hl16 : g16 < W.drew.heap.size := K16.lt
              have y0 := (Blk.cell K15 0)
              have y1 := (Blk.cell K15 1)
              have y2 := (Blk.cell K15 2)
              have y3 := (Blk.cell K15 3)
              have y4 := (Blk.cell K15 4)
              have y5 := (Blk.cell K15 5)
              have y6 := (Blk.cell K16 0)
              have y7 := (Blk.cell K16 1)
              have y8 := (Blk.cell K16 2)
              have y9 := (Blk.cell K16 3)
              have y10 := (Blk.cell K16 4)
              have y11 := (Blk.cell K16 5)
              simp at y0 y1 y2 y3 y4 y5 y6 y7 y8 y9 y10 y11
              clear hW hg15 hg16 K15 K16
              go_wp2_with fail
              go_region_held3 (fun w' => w'.cell? ⟨g15, 0, none⟩ = some (.int .i64 k) ∧ w'.cell? ⟨g15, 1, none⟩ = some (.int .i64 ar) ∧ w'.cell? ⟨g15, 2, none⟩ = some (.int .i64 a) ∧ w'.cell? ⟨g15, 3, none⟩ = some (.slice A1 n1 c1) ∧ w'.cell? ⟨g15, 4, none⟩ = some (.slice A2 n2 c2) ∧ w'.cell? ⟨g15, 5, none⟩ = some (.slice A3 n3 c3) ∧ w'.cell? ⟨g16, 0, none⟩ = some (.int .i64 1) ∧ w'.cell? ⟨g16, 1, none⟩ = some (.int .i64 0) ∧ w'.cell? ⟨g16, 2, none⟩ = some (.int .i64 0) ∧ w'.cell? ⟨g16, 3, none⟩ = some (.int .i64 0) ∧ w'.cell? ⟨g16, 4, none⟩ = some (.slice none 0 0) ∧ w'.cell? ⟨g16, 5, none⟩ = some (.slice none 0 0)) (first | (with_reducible exact ⟨y0, y1, y2, y3, y4, y5, y6, y7, y8, y9, y10, y11⟩) | (with_reducible exact ⟨z0, z1, z2, z3, z4, z5, z6, z7, z8, z9, z10, z11⟩) | (with_reducible exact ⟨v0, v1, v2, v3, v4, v5, v6, v7, v8, v9, v10, v11⟩) | go_keep) (first | (go_at_call 54; refine (nCall (v := .pointer (some ⟨d.g, 0, none⟩)) k ar a hk0 hk6 (A1 := A1) (A2 := A2) (A3 := A3) (n1 := n1) (n2 := n2) (n3 := n3) (c1 := c1) (c2 := c2) (c3 := c3)).mono ?_; rw [hE]; rintro e w4 ⟨rfl, hb⟩; have HB4 := Lib.hid (HBW.out.trans (hb.mono HBW.out.size)); have z0 := (hb.cell (p := ⟨g15, 0, none⟩) hl15).trans y0; have z1 := (hb.cell (p := ⟨g15, 1, none⟩) hl15).trans y1; have z2 := (hb.cell (p := ⟨g15, 2, none⟩) hl15).trans y2; have z3 := (hb.cell (p := ⟨g15, 3, none⟩) hl15).trans y3; have z4 := (hb.cell (p := ⟨g15, 4, none⟩) hl15).trans y4; have z5 := (hb.cell (p := ⟨g15, 5, none⟩) hl15).trans y5; have z6 := (hb.cell (p := ⟨g16, 0, none⟩) hl16).trans y6; have z7 := (hb.cell (p := ⟨g16, 1, none⟩) hl16).trans y7; have z8 := (hb.cell (p := ⟨g16, 2, none⟩) hl16).trans y8; have z9 := (hb.cell (p := ⟨g16, 3, none⟩) hl16).trans y9; have z10 := (hb.cell (p := ⟨g16, 4, none⟩) hl16).trans y10; have z11 := (hb.cell (p := ⟨g16, 5, none⟩) hl16).trans y11; have hsz4 := hb.size; clear hb) | (go_at_call 53; refine (alike_nil (n := 1)).mono ?_; rintro e w5 ⟨rfl, hb⟩; have HB5 := Lib.hid (HB4.out.trans (hb.mono HB4.out.size)); replace hl15 := Nat.lt_of_lt_of_le hl15 hsz4; replace hl16 := Nat.lt_of_lt_of_le hl16 hsz4; have v0 := (hb.cell (p := ⟨g15, 0, none⟩) hl15).trans z0; have v1 := (hb.cell (p := ⟨g15, 1, none⟩) hl15).trans z1; have v2 := (hb.cell (p := ⟨g15, 2, none⟩) hl15).trans z2; have v3 := (hb.cell (p := ⟨g15, 3, none⟩) hl15).trans z3; have v4 := (hb.cell (p := ⟨g15, 4, none⟩) hl15).trans z4; have v5 := (hb.cell (p := ⟨g15, 5, none⟩) hl15).trans z5; have v6 := (hb.cell (p := ⟨g16, 0, none⟩) hl16).trans z6; have v7 := (hb.cell (p := ⟨g16, 1, none⟩) hl16).trans z7; have v8 := (hb.cell (p := ⟨g16, 2, none⟩) hl16).trans z8; have v9 := (hb.cell (p := ⟨g16, 3, none⟩) hl16).trans z9; have v10 := (hb.cell (p := ⟨g16, 4, none⟩) hl16).trans z10; have v11 := (hb.cell (p := ⟨g16, 5, none⟩) hl16).trans z11; clear hb))
              go_wp2
              exact ⟨⟨K + 1, by go_num, hKi, HB5⟩, by simp [intOf]; omega⟩
            · have hE : kNil k = 0 := if_neg hk4
              go_upto_region 23 with fail
              obtain ⟨W, hW⟩ : ∃ W, W = (wr.alloc (.cells #[.int .i64 k, .int .i64 ar, .int .i64 a, .slice A1 n1 c1, .slice A2 n2 c2, .slice A3 n3 c3] 88)).alloc (.cells #[.int .i64 0, .int .i64 0, .int .i64 0, .int .i64 0, .slice none 0 0, .slice none 0 0] 90) := ⟨_, rfl⟩
              obtain ⟨g15, hg15⟩ : ∃ x, x = wr.heap.size := ⟨_, rfl⟩
              obtain ⟨g16, hg16⟩ : ∃ x, x = wr.heap.size + 1 := ⟨_, rfl⟩
              have K15 : Blk W g15 88 #[.int .i64 k, .int .i64 ar, .int .i64 a, .slice A1 n1 c1, .slice A2 n2 c2, .slice A3 n3 c3] := by rw [hW, hg15]; exact (Blk.new _ _ _).below' ((Below.refl _ _).alloc (Nat.le_refl _) _)
              have K16 : Blk W g16 90 #[.int .i64 0, .int .i64 0, .int .i64 0, .int .i64 0, .slice none 0 0, .slice none 0 0] := by
                have h := Blk.new (wr.alloc (.cells #[.int .i64 k, .int .i64 ar, .int .i64 a, .slice A1 n1 c1, .slice A2 n2 c2, .slice A3 n3 c3] 88)) 90 #[.int .i64 0, .int .i64 0, .int .i64 0, .int .i64 0, .slice none 0 0, .slice none 0 0]
                rw [World.size_alloc] at h
                rw [hW, hg16]; exact h
              have HBW := Lib.hid (show Below w.heap.size w W.drew from by rw [hW]; exact (((hB.out.alloc hB.out.size _).alloc (by have := hB.out.size; simp; omega) _)).drew)
              rw [← hW, ← hg16, ← hg15]
              have hl15 : g15 < W.drew.heap.size := K15.lt
              have hl16 : g16 < W.drew.heap.size := K16.lt
              have y0 := (Blk.cell K15 0)
              have y1 := (Blk.cell K15 1)
              have y2 := (Blk.cell K15 2)
              have y3 := (Blk.cell K15 3)
              have y4 := (Blk.cell K15 4)
              have y5 := (Blk.cell K15 5)
              have y6 := (Blk.cell K16 0)
              have y7 := (Blk.cell K16 1)
              have y8 := (Blk.cell K16 2)
              have y9 := (Blk.cell K16 3)
              have y10 := (Blk.cell K16 4)
              have y11 := (Blk.cell K16 5)
              simp at y0 y1 y2 y3 y4 y5 y6 y7 y8 y9 y10 y11
              clear hW hg15 hg16 K15 K16
              go_wp2_with fail
              go_region_held3 (fun w' => w'.cell? ⟨g15, 0, none⟩ = some (.int .i64 k) ∧ w'.cell? ⟨g15, 1, none⟩ = some (.int .i64 ar) ∧ w'.cell? ⟨g15, 2, none⟩ = some (.int .i64 a) ∧ w'.cell? ⟨g15, 3, none⟩ = some (.slice A1 n1 c1) ∧ w'.cell? ⟨g15, 4, none⟩ = some (.slice A2 n2 c2) ∧ w'.cell? ⟨g15, 5, none⟩ = some (.slice A3 n3 c3) ∧ w'.cell? ⟨g16, 0, none⟩ = some (.int .i64 0) ∧ w'.cell? ⟨g16, 1, none⟩ = some (.int .i64 0) ∧ w'.cell? ⟨g16, 2, none⟩ = some (.int .i64 0) ∧ w'.cell? ⟨g16, 3, none⟩ = some (.int .i64 0) ∧ w'.cell? ⟨g16, 4, none⟩ = some (.slice none 0 0) ∧ w'.cell? ⟨g16, 5, none⟩ = some (.slice none 0 0)) (first | (with_reducible exact ⟨y0, y1, y2, y3, y4, y5, y6, y7, y8, y9, y10, y11⟩) | (with_reducible exact ⟨z0, z1, z2, z3, z4, z5, z6, z7, z8, z9, z10, z11⟩) | (with_reducible exact ⟨v0, v1, v2, v3, v4, v5, v6, v7, v8, v9, v10, v11⟩) | go_keep) (first | (go_at_call 54; refine (nCall (v := .pointer (some ⟨d.g, 0, none⟩)) k ar a hk0 hk6 (A1 := A1) (A2 := A2) (A3 := A3) (n1 := n1) (n2 := n2) (n3 := n3) (c1 := c1) (c2 := c2) (c3 := c3)).mono ?_; rw [hE]; rintro e w4 ⟨rfl, hb⟩; have HB4 := Lib.hid (HBW.out.trans (hb.mono HBW.out.size)); have z0 := (hb.cell (p := ⟨g15, 0, none⟩) hl15).trans y0; have z1 := (hb.cell (p := ⟨g15, 1, none⟩) hl15).trans y1; have z2 := (hb.cell (p := ⟨g15, 2, none⟩) hl15).trans y2; have z3 := (hb.cell (p := ⟨g15, 3, none⟩) hl15).trans y3; have z4 := (hb.cell (p := ⟨g15, 4, none⟩) hl15).trans y4; have z5 := (hb.cell (p := ⟨g15, 5, none⟩) hl15).trans y5; have z6 := (hb.cell (p := ⟨g16, 0, none⟩) hl16).trans y6; have z7 := (hb.cell (p := ⟨g16, 1, none⟩) hl16).trans y7; have z8 := (hb.cell (p := ⟨g16, 2, none⟩) hl16).trans y8; have z9 := (hb.cell (p := ⟨g16, 3, none⟩) hl16).trans y9; have z10 := (hb.cell (p := ⟨g16, 4, none⟩) hl16).trans y10; have z11 := (hb.cell (p := ⟨g16, 5, none⟩) hl16).trans y11; have hsz4 := hb.size; clear hb) | (go_at_call 53; refine (alike_nil (n := 0)).mono ?_; rintro e w5 ⟨rfl, hb⟩; have HB5 := Lib.hid (HB4.out.trans (hb.mono HB4.out.size)); replace hl15 := Nat.lt_of_lt_of_le hl15 hsz4; replace hl16 := Nat.lt_of_lt_of_le hl16 hsz4; have v0 := (hb.cell (p := ⟨g15, 0, none⟩) hl15).trans z0; have v1 := (hb.cell (p := ⟨g15, 1, none⟩) hl15).trans z1; have v2 := (hb.cell (p := ⟨g15, 2, none⟩) hl15).trans z2; have v3 := (hb.cell (p := ⟨g15, 3, none⟩) hl15).trans z3; have v4 := (hb.cell (p := ⟨g15, 4, none⟩) hl15).trans z4; have v5 := (hb.cell (p := ⟨g15, 5, none⟩) hl15).trans z5; have v6 := (hb.cell (p := ⟨g16, 0, none⟩) hl16).trans z6; have v7 := (hb.cell (p := ⟨g16, 1, none⟩) hl16).trans z7; have v8 := (hb.cell (p := ⟨g16, 2, none⟩) hl16).trans z8; have v9 := (hb.cell (p := ⟨g16, 3, none⟩) hl16).trans z9; have v10 := (hb.cell (p := ⟨g16, 4, none⟩) hl16).trans z10; have v11 := (hb.cell (p := ⟨g16, 5, none⟩) hl16).trans z11; clear hb))
              go_wp2
              exact ⟨⟨K + 1, by go_num, hKi, HB5⟩, by simp [intOf]; omega⟩
          · have hk6' : 6 < k := by omega
            go_wp2
            exact ⟨⟨K + 1, by go_num, hKi, HBA⟩, by simp [intOf]; omega⟩
        · have hk0' : k < 0 := by omega
          go_wp2
          exact ⟨⟨K + 1, by go_num, hKi, HBA⟩, by simp [intOf]; omega⟩
      · obtain rfl : K = sc.length := by omega
        go_wp2
        go_ret
        exact ⟨rfl, hB.out⟩
end Go.Proofs.Ytnnladfndmdapaa
