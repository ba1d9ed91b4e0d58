/- EntryOfs, EntryVersions: the walks (printed by a program of this claim's own). -/
import Derived.Test.YtnnladfndmdapaaEntK
import Derived.Test.YtnnladfndmdapaaEnt12
namespace Go.Proofs.Ytnnladfndmdapaa
open Go.RowKit

set_option maxRecDepth 100000 in
set_option maxHeartbeats 6400000 in
theorem entryOfs_walk {w : World} {Av : Option Addr} {cv : Nat} (v : Vn) (hrv : BReads w w.heap.size Av v.value) (hkv : v.key.size ≤ 140737488355328) (hlv : v.value.length ≤ 140737488355328)
    {Ae : Option Addr} {ce : Nat} (x : En) (hre : BReads w w.heap.size Ae x.value) (hke : x.key.size ≤ 140737488355328) (hle : x.value.length ≤ 140737488355328) :
    Calls Try.prog 7 #[.agg (v.cells Av cv), .agg (x.cells Ae ce)] w (True_ w) := by
  obtain ⟨⟨⟨xk, xs, xp, xd⟩, xi⟩, hxv⟩ : ∃ y, y = En.version x := ⟨_, rfl⟩
  obtain ⟨⟨ok, os, on, okey, op, od⟩, how⟩ : ∃ y, y = Vn.ofWrite v := ⟨_, rfl⟩
  have HXV := Lib.hid hxv
  have HOW := Lib.hid how
  have HRV := Lib.hid hrv
  have HRE := Lib.hid hre
  clear hrv hre hxv how
  obtain ⟨vk, vs, q, vd⟩ := v
  obtain ⟨k, s, n, key, p, d⟩ := x
  have KV0 := Lib.hid ((Blk.new w 43 #[.string vk, .int .i64 vs, .slice Av q.length cv, .bool vd]).alloc (.cells #[.int .i64 k, .int .i64 s, .int .i64 n, .string key, .slice Ae p.length ce, .bool d] 25))
  have KE0 := Lib.hid (Blk.new (w.alloc (.cells #[.string vk, .int .i64 vs, .slice Av q.length cv, .bool vd] 43)) 25 #[.int .i64 k, .int .i64 s, .int .i64 n, .string key, .slice Ae p.length ce, .bool d])
  have B0 := Lib.hid (((Below.refl w.heap.size w).alloc (Nat.le_refl _) (.cells #[.string vk, .int .i64 vs, .slice Av q.length cv, .bool vd] 43)).alloc (by simp) (.cells #[.int .i64 k, .int .i64 s, .int .i64 n, .string key, .slice Ae p.length ce, .bool d] 25))
  unfold Vn.cells En.cells
  simp only at hkv hlv hke hle HRV HRE ⊢
  go_enter Try.func7, Try.ntmps7
  go_wp2_with fail
  obtain ⟨w0, hw0⟩ : ∃ x, x = (w.alloc (.cells #[.string vk, .int .i64 vs, .slice Av q.length cv, .bool vd] 43)).alloc (.cells #[.int .i64 k, .int .i64 s, .int .i64 n, .string key, .slice Ae p.length ce, .bool d] 25) := ⟨_, rfl⟩
  obtain ⟨TVb, hTV⟩ : ∃ x, x = w.heap.size := ⟨_, rfl⟩
  obtain ⟨TEb, hTE⟩ : ∃ x, x = (w.alloc (.cells #[.string vk, .int .i64 vs, .slice Av q.length cv, .bool vd] 43)).heap.size := ⟨_, rfl⟩
  have hTE' : TEb = w.heap.size + 1 := by rw [hTE]; simp
  rw [← hw0] at KV0 KE0 B0 ⊢
  rw [← hTE] at KE0
  rw [show w.heap.size + 1 = TEb from hTE'.symm]
  rw [← hTV] at KV0 ⊢
  have RV0 := Lib.hid ((HRV.out.below B0.out).more B0.out.size)
  have RE0 := Lib.hid ((HRE.out.below B0.out).more B0.out.size)
  clear hw0 hTV hTE hTE' HRV HRE
  refine (clone_any (c := ce) ⟨k, s, n, key, p, d⟩ RE0.out hle).mono ?_
  rintro e w1 ⟨A1, c1, he, ho, hb⟩
  obtain rfl : e = .returned (.agg #[.int .i64 k, .int .i64 s, .int .i64 n, .string key, .slice A1 p.length c1, .bool d]) := he
  have O1 := Lib.hid ho.reads
  have B1 := Lib.hid (B0.out.trans (hb.mono B0.out.size))
  have KV1 := Lib.hid (KV0.out.below' hb)
  have KE1 := Lib.hid (KE0.out.below' hb)
  have RV1 := Lib.hid ((RV0.out.below hb).more hb.size)
  have RE1 := Lib.hid ((RE0.out.below hb).more hb.size)
  clear ho hb B0 KV0 KE0 RV0 RE0
  go_wp2_with fail
  refine (version_any (A := A1) (c := c1) ⟨k, s, n, key, p, d⟩ O1.out hle).mono ?_
  rintro e w2 ⟨A2, c2, he, ho, hb⟩
  rw [← HXV.out] at he ho
  obtain rfl : e = .returned (.tuple #[.agg #[.string xk, .int .i64 xs, .slice A2 xp.length c2, .bool xd], .bool xi]) := he
  have O2 := Lib.hid (show BReads w2 w2.heap.size A2 xp from ho.reads)
  have B2 := Lib.hid (B1.out.trans (hb.mono B1.out.size))
  have KV2 := Lib.hid (KV1.out.below' hb)
  have KE2 := Lib.hid (KE1.out.below' hb)
  have RV2 := Lib.hid ((RV1.out.below hb).more hb.size)
  have RE2 := Lib.hid ((RE1.out.below hb).more hb.size)
  clear ho hb B1 KV1 KE1 RV1 RE1 O1
  have KX3 := Lib.hid (Blk.new w2 43 #[.string xk, .int .i64 xs, .slice A2 xp.length c2, .bool xd])
  have hb := Lib.hid ((Below.refl w2.heap.size w2).alloc (Nat.le_refl _) (.cells #[.string xk, .int .i64 xs, .slice A2 xp.length c2, .bool xd] 43))
  go_upto_region 2 with fail
  obtain ⟨w3, hw3⟩ : ∃ x, x = w2.alloc (.cells #[.string xk, .int .i64 xs, .slice A2 xp.length c2, .bool xd] 43) := ⟨_, rfl⟩
  obtain ⟨TX, hTX⟩ : ∃ x, x = w2.heap.size := ⟨_, rfl⟩
  have HTX := Lib.hid hTX
  rw [← hw3] at KX3 hb ⊢
  rw [← hTX] at KX3 ⊢
  clear hw3 hTX
  have B3 := Lib.hid (B2.out.trans (hb.out.mono B2.out.size))
  have KV3 := Lib.hid (KV2.out.below' hb.out)
  have RV3 := Lib.hid ((RV2.out.below hb.out).more hb.out.size)
  have RE3 := Lib.hid ((RE2.out.below hb.out).more hb.out.size)
  have O3 := Lib.hid ((O2.out.below hb.out).more hb.out.size)
  have KE3 := Lib.hid (KE2.out.below' hb.out)
  clear hb B2 KV2 KE2 RV2 RE2 O2
  have q0 := KE3.out.cell 0
  have q1 := KE3.out.cell 1
  have q2 := KE3.out.cell 2
  have q3 := KE3.out.cell 3
  have q4 := KE3.out.cell 4
  have q5 := KE3.out.cell 5
  simp at q0 q1 q2 q3 q4 q5
  go_wp2_with fail
  clear q0 q1 q2 q3 q4 q5 KE3
  refine (rversion_any (A := Ae) (c := ce) ⟨k, s, n, key, p, d⟩ RE3.out hle).mono ?_
  rintro e w4 ⟨A4, c4, he, ho, hb⟩
  rw [← HXV.out] at he ho
  obtain rfl : e = .returned (.tuple #[.agg #[.string xk, .int .i64 xs, .slice A4 xp.length c4, .bool xd], .bool xi]) := he
  have P4 := Lib.hid (show BReads w4 w4.heap.size A4 xp from ho.reads)
  have B4 := Lib.hid (B3.out.trans (hb.mono B3.out.size))
  have KV4 := Lib.hid (KV3.out.below' hb)
  have KX4 := Lib.hid (KX3.out.below' hb)
  have RV4 := Lib.hid ((RV3.out.below hb).more hb.size)
  have O4 := Lib.hid ((O3.out.below hb).more hb.size)
  clear ho hb B3 KV3 KX3 RV3 RE3 O3
  have KY5 := Lib.hid (Blk.new w4 43 #[.string xk, .int .i64 xs, .slice A4 xp.length c4, .bool xd])
  have hb := Lib.hid ((Below.refl w4.heap.size w4).alloc (Nat.le_refl _) (.cells #[.string xk, .int .i64 xs, .slice A4 xp.length c4, .bool xd] 43))
  go_upto_region 3 with fail
  obtain ⟨w5, hw5⟩ : ∃ x, x = w4.alloc (.cells #[.string xk, .int .i64 xs, .slice A4 xp.length c4, .bool xd] 43) := ⟨_, rfl⟩
  obtain ⟨TY, hTY⟩ : ∃ x, x = w4.heap.size := ⟨_, rfl⟩
  have HTY := Lib.hid hTY
  rw [← hw5] at KY5 hb ⊢
  rw [← hTY] at KY5 ⊢
  clear hw5 hTY
  have B5 := Lib.hid (B4.out.trans (hb.out.mono B4.out.size))
  have KV5 := Lib.hid (KV4.out.below' hb.out)
  have KX5 := Lib.hid (KX4.out.below' hb.out)
  have RV5 := Lib.hid ((RV4.out.below hb.out).more hb.out.size)
  have O5 := Lib.hid ((O4.out.below hb.out).more hb.out.size)
  have P5 := Lib.hid ((P4.out.below hb.out).more hb.out.size)
  clear hb B4 KV4 KX4 RV4 O4 P4
  have HD0 := Lib.hid (show Below w5.heap.size w5 w5.drew from (Below.refl _ _).drew)
  have KVW := Lib.hid (KV5.out.below' HD0.out)
  have KXW := Lib.hid (KX5.out.below' HD0.out)
  have KYW := Lib.hid (KY5.out.below' HD0.out)
  have RVW := Lib.hid ((RV5.out.below HD0.out).more HD0.out.size)
  have OW := Lib.hid ((O5.out.below HD0.out).more HD0.out.size)
  have PW := Lib.hid ((P5.out.below HD0.out).more HD0.out.size)
  have BW := Lib.hid (B5.out.trans (HD0.out.mono B5.out.size))
  have _WKV0 := KVW.out.cell 0
  have _WKV1 := KVW.out.cell 1
  have _WKV2 := KVW.out.cell 2
  have _WKV3 := KVW.out.cell 3
  have _WKX0 := KXW.out.cell 0
  have _WKX1 := KXW.out.cell 1
  have _WKX2 := KXW.out.cell 2
  have _WKX3 := KXW.out.cell 3
  have _WKY0 := KYW.out.cell 0
  have _WKY1 := KYW.out.cell 1
  have _WKY2 := KYW.out.cell 2
  have _WKY3 := KYW.out.cell 3
  simp only [List.getElem?_toArray, List.getElem?_cons_zero, List.getElem?_cons_succ] at _WKV0 _WKV1 _WKV2 _WKV3 _WKX0 _WKX1 _WKX2 _WKX3 _WKY0 _WKY1 _WKY2 _WKY3
  go_region_held3 (fun w' => w'.cell? ⟨TVb, 0, none⟩ = some (.string vk) ∧ w'.cell? ⟨TVb, 1, none⟩ = some (.int .i64 vs) ∧ w'.cell? ⟨TVb, 2, none⟩ = some (.slice Av q.length cv) ∧ w'.cell? ⟨TVb, 3, none⟩ = some (.bool vd) ∧ w'.cell? ⟨TX, 0, none⟩ = some (.string xk) ∧ w'.cell? ⟨TX, 1, none⟩ = some (.int .i64 xs) ∧ w'.cell? ⟨TX, 2, none⟩ = some (.slice A2 xp.length c2) ∧ w'.cell? ⟨TX, 3, none⟩ = some (.bool xd) ∧ w'.cell? ⟨TY, 0, none⟩ = some (.string xk) ∧ w'.cell? ⟨TY, 1, none⟩ = some (.int .i64 xs) ∧ w'.cell? ⟨TY, 2, none⟩ = some (.slice A4 xp.length c4) ∧ w'.cell? ⟨TY, 3, none⟩ = some (.bool xd)) (first | (with_reducible exact ⟨_WKV0, _WKV1, _WKV2, _WKV3, _WKX0, _WKX1, _WKX2, _WKX3, _WKY0, _WKY1, _WKY2, _WKY3⟩) | (with_reducible exact ⟨_0zKV0, _0zKV1, _0zKV2, _0zKV3, _0zKX0, _0zKX1, _0zKX2, _0zKX3, _0zKY0, _0zKY1, _0zKY2, _0zKY3⟩) | (with_reducible exact ⟨_1zKV0, _1zKV1, _1zKV2, _1zKV3, _1zKX0, _1zKX1, _1zKX2, _1zKX3, _1zKY0, _1zKY1, _1zKY2, _1zKY3⟩) | (with_reducible exact ⟨_2zKV0, _2zKV1, _2zKV2, _2zKV3, _2zKX0, _2zKX1, _2zKX2, _2zKX3, _2zKY0, _2zKY1, _2zKY2, _2zKY3⟩) | (with_reducible exact ⟨_3zKV0, _3zKV1, _3zKV2, _3zKV3, _3zKX0, _3zKX1, _3zKX2, _3zKX3, _3zKY0, _3zKY1, _3zKY2, _3zKY3⟩) | (with_reducible exact ⟨_4zKV0, _4zKV1, _4zKV2, _4zKV3, _4zKX0, _4zKX1, _4zKX2, _4zKX3, _4zKY0, _4zKY1, _4zKY2, _4zKY3⟩) | (with_reducible exact ⟨_5zKV0, _5zKV1, _5zKV2, _5zKV3, _5zKX0, _5zKX1, _5zKX2, _5zKX3, _5zKY0, _5zKY1, _5zKY2, _5zKY3⟩) | (with_reducible exact ⟨_6zKV0, _6zKV1, _6zKV2, _6zKV3, _6zKX0, _6zKX1, _6zKX2, _6zKX3, _6zKY0, _6zKY1, _6zKY2, _6zKY3⟩) | (with_reducible exact ⟨_7zKV0, _7zKV1, _7zKV2, _7zKV3, _7zKX0, _7zKX1, _7zKX2, _7zKX3, _7zKY0, _7zKY1, _7zKY2, _7zKY3⟩) | go_keep) (first | (go_at_call 27; (fail_if_success clear B0z); refine (ofWrite_any (A := Av) (c := cv) ⟨vk, vs, q, vd⟩ RVW.out hlv).mono ?_; rintro e w0z ⟨A6, c6, he, ho, hb⟩; rw [← HOW.out] at he ho; obtain rfl : e = .returned (.agg #[.int .i64 ok, .int .i64 os, .int .i64 on, .string okey, .slice A6 op.length c6, .bool od]) := he; have HH := Lib.hid hb; have KV0z := Lib.hid (KVW.out.below' HH.out); have KX0z := Lib.hid (KXW.out.below' HH.out); have KY0z := Lib.hid (KYW.out.below' HH.out); have RV0z := Lib.hid ((RVW.out.below HH.out).more HH.out.size); have O0z := Lib.hid ((OW.out.below HH.out).more HH.out.size); have P0z := Lib.hid ((PW.out.below HH.out).more HH.out.size); have B0z := Lib.hid (BW.out.trans (HH.out.mono BW.out.size)); have Q0z := Lib.hid ho.reads; have _0zKV0 := KV0z.out.cell 0; have _0zKV1 := KV0z.out.cell 1; have _0zKV2 := KV0z.out.cell 2; have _0zKV3 := KV0z.out.cell 3; have _0zKX0 := KX0z.out.cell 0; have _0zKX1 := KX0z.out.cell 1; have _0zKX2 := KX0z.out.cell 2; have _0zKX3 := KX0z.out.cell 3; have _0zKY0 := KY0z.out.cell 0; have _0zKY1 := KY0z.out.cell 1; have _0zKY2 := KY0z.out.cell 2; have _0zKY3 := KY0z.out.cell 3; simp only [List.getElem?_toArray, List.getElem?_cons_zero, List.getElem?_cons_succ] at _0zKV0 _0zKV1 _0zKV2 _0zKV3 _0zKX0 _0zKX1 _0zKX2 _0zKX3 _0zKY0 _0zKY1 _0zKY2 _0zKY3; clear hb HH) | (go_at_call 28; (fail_if_success clear B1z); refine (rofWrite_any (A := Av) (c := cv) ⟨vk, vs, q, vd⟩ RV0z.out hlv).mono ?_; rintro e w1z ⟨A7, c7, he, ho, hb⟩; rw [← HOW.out] at he ho; obtain rfl : e = .returned (.agg #[.int .i64 ok, .int .i64 os, .int .i64 on, .string okey, .slice A7 op.length c7, .bool od]) := he; have HH := Lib.hid hb; have KV1z := Lib.hid (KV0z.out.below' HH.out); have KX1z := Lib.hid (KX0z.out.below' HH.out); have KY1z := Lib.hid (KY0z.out.below' HH.out); have RV1z := Lib.hid ((RV0z.out.below HH.out).more HH.out.size); have O1z := Lib.hid ((O0z.out.below HH.out).more HH.out.size); have P1z := Lib.hid ((P0z.out.below HH.out).more HH.out.size); have Q1z := Lib.hid ((Q0z.out.below HH.out).more HH.out.size); have B1z := Lib.hid (B0z.out.trans (HH.out.mono B0z.out.size)); have U1z := Lib.hid ho.reads; have _1zKV0 := KV1z.out.cell 0; have _1zKV1 := KV1z.out.cell 1; have _1zKV2 := KV1z.out.cell 2; have _1zKV3 := KV1z.out.cell 3; have _1zKX0 := KX1z.out.cell 0; have _1zKX1 := KX1z.out.cell 1; have _1zKX2 := KX1z.out.cell 2; have _1zKX3 := KX1z.out.cell 3; have _1zKY0 := KY1z.out.cell 0; have _1zKY1 := KY1z.out.cell 1; have _1zKY2 := KY1z.out.cell 2; have _1zKY3 := KY1z.out.cell 3; simp only [List.getElem?_toArray, List.getElem?_cons_zero, List.getElem?_cons_succ] at _1zKV0 _1zKV1 _1zKV2 _1zKV3 _1zKX0 _1zKX1 _1zKX2 _1zKX3 _1zKY0 _1zKY1 _1zKY2 _1zKY3; clear hb HH) | (go_at_call 24; (fail_if_success clear B2z); refine (same_any (A := A6) (A' := A7) (c := c6) (c' := c7) ⟨ok, os, on, okey, op, od⟩ Q1z.out U1z.out).mono ?_; rintro e w2z ⟨rfl, hb⟩; have HH := Lib.hid hb; have KV2z := Lib.hid (KV1z.out.below' HH.out); have KX2z := Lib.hid (KX1z.out.below' HH.out); have KY2z := Lib.hid (KY1z.out.below' HH.out); have RV2z := Lib.hid ((RV1z.out.below HH.out).more HH.out.size); have O2z := Lib.hid ((O1z.out.below HH.out).more HH.out.size); have P2z := Lib.hid ((P1z.out.below HH.out).more HH.out.size); have Q2z := Lib.hid ((Q1z.out.below HH.out).more HH.out.size); have U2z := Lib.hid ((U1z.out.below HH.out).more HH.out.size); have B2z := Lib.hid (B1z.out.trans (HH.out.mono B1z.out.size)); have _2zKV0 := KV2z.out.cell 0; have _2zKV1 := KV2z.out.cell 1; have _2zKV2 := KV2z.out.cell 2; have _2zKV3 := KV2z.out.cell 3; have _2zKX0 := KX2z.out.cell 0; have _2zKX1 := KX2z.out.cell 1; have _2zKX2 := KX2z.out.cell 2; have _2zKX3 := KX2z.out.cell 3; have _2zKY0 := KY2z.out.cell 0; have _2zKY1 := KY2z.out.cell 1; have _2zKY2 := KY2z.out.cell 2; have _2zKY3 := KY2z.out.cell 3; simp only [List.getElem?_toArray, List.getElem?_cons_zero, List.getElem?_cons_succ] at _2zKV0 _2zKV1 _2zKV2 _2zKV3 _2zKX0 _2zKX1 _2zKX2 _2zKX3 _2zKY0 _2zKY1 _2zKY2 _2zKY3; clear hb HH) | (go_at_call 29; (fail_if_success clear B3z); refine (ofVersion_any (A := Av) (c := cv) ⟨vk, vs, q, vd⟩ RV2z.out hlv).mono ?_; rintro e w3z ⟨A8, c8, he, ho, hb⟩; obtain rfl : e = .returned (.agg #[.int .i64 5, .int .i64 vs, .int .i64 0, .string vk, .slice A8 q.length c8, .bool vd]) := he; have HH := Lib.hid hb; have KV3z := Lib.hid (KV2z.out.below' HH.out); have KX3z := Lib.hid (KX2z.out.below' HH.out); have KY3z := Lib.hid (KY2z.out.below' HH.out); have RV3z := Lib.hid ((RV2z.out.below HH.out).more HH.out.size); have O3z := Lib.hid ((O2z.out.below HH.out).more HH.out.size); have P3z := Lib.hid ((P2z.out.below HH.out).more HH.out.size); have Q3z := Lib.hid ((Q2z.out.below HH.out).more HH.out.size); have U3z := Lib.hid ((U2z.out.below HH.out).more HH.out.size); have B3z := Lib.hid (B2z.out.trans (HH.out.mono B2z.out.size)); have X83z := Lib.hid ho.reads; have _3zKV0 := KV3z.out.cell 0; have _3zKV1 := KV3z.out.cell 1; have _3zKV2 := KV3z.out.cell 2; have _3zKV3 := KV3z.out.cell 3; have _3zKX0 := KX3z.out.cell 0; have _3zKX1 := KX3z.out.cell 1; have _3zKX2 := KX3z.out.cell 2; have _3zKX3 := KX3z.out.cell 3; have _3zKY0 := KY3z.out.cell 0; have _3zKY1 := KY3z.out.cell 1; have _3zKY2 := KY3z.out.cell 2; have _3zKY3 := KY3z.out.cell 3; simp only [List.getElem?_toArray, List.getElem?_cons_zero, List.getElem?_cons_succ] at _3zKV0 _3zKV1 _3zKV2 _3zKV3 _3zKX0 _3zKX1 _3zKX2 _3zKX3 _3zKY0 _3zKY1 _3zKY2 _3zKY3; clear hb HH) | (go_at_call 30; (fail_if_success clear B4z); refine (rofVersion_any (A := Av) (c := cv) ⟨vk, vs, q, vd⟩ RV3z.out hlv).mono ?_; rintro e w4z ⟨A9, c9, he, ho, hb⟩; obtain rfl : e = .returned (.agg #[.int .i64 5, .int .i64 vs, .int .i64 0, .string vk, .slice A9 q.length c9, .bool vd]) := he; have HH := Lib.hid hb; have KV4z := Lib.hid (KV3z.out.below' HH.out); have KX4z := Lib.hid (KX3z.out.below' HH.out); have KY4z := Lib.hid (KY3z.out.below' HH.out); have RV4z := Lib.hid ((RV3z.out.below HH.out).more HH.out.size); have O4z := Lib.hid ((O3z.out.below HH.out).more HH.out.size); have P4z := Lib.hid ((P3z.out.below HH.out).more HH.out.size); have Q4z := Lib.hid ((Q3z.out.below HH.out).more HH.out.size); have U4z := Lib.hid ((U3z.out.below HH.out).more HH.out.size); have X84z := Lib.hid ((X83z.out.below HH.out).more HH.out.size); have B4z := Lib.hid (B3z.out.trans (HH.out.mono B3z.out.size)); have X94z := Lib.hid ho.reads; have _4zKV0 := KV4z.out.cell 0; have _4zKV1 := KV4z.out.cell 1; have _4zKV2 := KV4z.out.cell 2; have _4zKV3 := KV4z.out.cell 3; have _4zKX0 := KX4z.out.cell 0; have _4zKX1 := KX4z.out.cell 1; have _4zKX2 := KX4z.out.cell 2; have _4zKX3 := KX4z.out.cell 3; have _4zKY0 := KY4z.out.cell 0; have _4zKY1 := KY4z.out.cell 1; have _4zKY2 := KY4z.out.cell 2; have _4zKY3 := KY4z.out.cell 3; simp only [List.getElem?_toArray, List.getElem?_cons_zero, List.getElem?_cons_succ] at _4zKV0 _4zKV1 _4zKV2 _4zKV3 _4zKX0 _4zKX1 _4zKX2 _4zKX3 _4zKY0 _4zKY1 _4zKY2 _4zKY3; clear hb HH) | (go_at_call 24; (fail_if_success clear B5z); refine (same_any (A := A8) (A' := A9) (c := c8) (c' := c9) ⟨5, vs, 0, vk, q, vd⟩ X84z.out X94z.out).mono ?_; rintro e w5z ⟨rfl, hb⟩; have HH := Lib.hid hb; have KV5z := Lib.hid (KV4z.out.below' HH.out); have KX5z := Lib.hid (KX4z.out.below' HH.out); have KY5z := Lib.hid (KY4z.out.below' HH.out); have RV5z := Lib.hid ((RV4z.out.below HH.out).more HH.out.size); have O5z := Lib.hid ((O4z.out.below HH.out).more HH.out.size); have P5z := Lib.hid ((P4z.out.below HH.out).more HH.out.size); have Q5z := Lib.hid ((Q4z.out.below HH.out).more HH.out.size); have U5z := Lib.hid ((U4z.out.below HH.out).more HH.out.size); have X85z := Lib.hid ((X84z.out.below HH.out).more HH.out.size); have X95z := Lib.hid ((X94z.out.below HH.out).more HH.out.size); have B5z := Lib.hid (B4z.out.trans (HH.out.mono B4z.out.size)); have _5zKV0 := KV5z.out.cell 0; have _5zKV1 := KV5z.out.cell 1; have _5zKV2 := KV5z.out.cell 2; have _5zKV3 := KV5z.out.cell 3; have _5zKX0 := KX5z.out.cell 0; have _5zKX1 := KX5z.out.cell 1; have _5zKX2 := KX5z.out.cell 2; have _5zKX3 := KX5z.out.cell 3; have _5zKY0 := KY5z.out.cell 0; have _5zKY1 := KY5z.out.cell 1; have _5zKY2 := KY5z.out.cell 2; have _5zKY3 := KY5z.out.cell 3; simp only [List.getElem?_toArray, List.getElem?_cons_zero, List.getElem?_cons_succ] at _5zKV0 _5zKV1 _5zKV2 _5zKV3 _5zKX0 _5zKX1 _5zKX2 _5zKX3 _5zKY0 _5zKY1 _5zKY2 _5zKY3; clear hb HH) | (go_at_call 31; (fail_if_success clear B6z); refine (sameVersion_any (A := A2) (A' := A4) (c := c2) (c' := c4) ⟨xk, xs, xp, xd⟩ O5z.out P5z.out).mono ?_; rintro e w6z ⟨rfl, hb⟩; have HH := Lib.hid hb; have KV6z := Lib.hid (KV5z.out.below' HH.out); have KX6z := Lib.hid (KX5z.out.below' HH.out); have KY6z := Lib.hid (KY5z.out.below' HH.out); have RV6z := Lib.hid ((RV5z.out.below HH.out).more HH.out.size); have O6z := Lib.hid ((O5z.out.below HH.out).more HH.out.size); have P6z := Lib.hid ((P5z.out.below HH.out).more HH.out.size); have Q6z := Lib.hid ((Q5z.out.below HH.out).more HH.out.size); have U6z := Lib.hid ((U5z.out.below HH.out).more HH.out.size); have X86z := Lib.hid ((X85z.out.below HH.out).more HH.out.size); have X96z := Lib.hid ((X95z.out.below HH.out).more HH.out.size); have B6z := Lib.hid (B5z.out.trans (HH.out.mono B5z.out.size)); have _6zKV0 := KV6z.out.cell 0; have _6zKV1 := KV6z.out.cell 1; have _6zKV2 := KV6z.out.cell 2; have _6zKV3 := KV6z.out.cell 3; have _6zKX0 := KX6z.out.cell 0; have _6zKX1 := KX6z.out.cell 1; have _6zKX2 := KX6z.out.cell 2; have _6zKX3 := KX6z.out.cell 3; have _6zKY0 := KY6z.out.cell 0; have _6zKY1 := KY6z.out.cell 1; have _6zKY2 := KY6z.out.cell 2; have _6zKY3 := KY6z.out.cell 3; simp only [List.getElem?_toArray, List.getElem?_cons_zero, List.getElem?_cons_succ] at _6zKV0 _6zKV1 _6zKV2 _6zKV3 _6zKX0 _6zKX1 _6zKX2 _6zKX3 _6zKY0 _6zKY1 _6zKY2 _6zKY3; clear hb HH) | (go_at_call 16; (fail_if_success clear B7z); refine (awake_any).mono ?_; rintro e w7z ⟨rfl, hb⟩; have HH := Lib.hid hb; have KV7z := Lib.hid (KV6z.out.below' HH.out); have KX7z := Lib.hid (KX6z.out.below' HH.out); have KY7z := Lib.hid (KY6z.out.below' HH.out); have RV7z := Lib.hid ((RV6z.out.below HH.out).more HH.out.size); have O7z := Lib.hid ((O6z.out.below HH.out).more HH.out.size); have P7z := Lib.hid ((P6z.out.below HH.out).more HH.out.size); have Q7z := Lib.hid ((Q6z.out.below HH.out).more HH.out.size); have U7z := Lib.hid ((U6z.out.below HH.out).more HH.out.size); have X87z := Lib.hid ((X86z.out.below HH.out).more HH.out.size); have X97z := Lib.hid ((X96z.out.below HH.out).more HH.out.size); have B7z := Lib.hid (B6z.out.trans (HH.out.mono B6z.out.size)); have _7zKV0 := KV7z.out.cell 0; have _7zKV1 := KV7z.out.cell 1; have _7zKV2 := KV7z.out.cell 2; have _7zKV3 := KV7z.out.cell 3; have _7zKX0 := KX7z.out.cell 0; have _7zKX1 := KX7z.out.cell 1; have _7zKX2 := KX7z.out.cell 2; have _7zKX3 := KX7z.out.cell 3; have _7zKY0 := KY7z.out.cell 0; have _7zKY1 := KY7z.out.cell 1; have _7zKY2 := KY7z.out.cell 2; have _7zKY3 := KY7z.out.cell 3; simp only [List.getElem?_toArray, List.getElem?_cons_zero, List.getElem?_cons_succ] at _7zKV0 _7zKV1 _7zKV2 _7zKV3 _7zKX0 _7zKX1 _7zKX2 _7zKX3 _7zKY0 _7zKY1 _7zKY2 _7zKY3; clear hb HH))
  go_wp2
  go_ret
  exact ⟨rfl, B7z.out⟩
set_option maxRecDepth 100000 in
set_option maxHeartbeats 6400000 in
theorem entryVersions_true {w : World} {Av : Option Addr} {cv : Nat} (vk : ByteArray) (vs : Int) (q : List UInt8) (hrv : BReads w w.heap.size Av q) (hkv : vk.size ≤ 140737488355328) (hlv : q.length ≤ 140737488355328) :
    Calls Try.prog 8 #[.agg #[.string vk, .int .i64 vs, .slice Av q.length cv, .bool true]] w (True_ w) := by
  have HRV := Lib.hid hrv
  clear hrv
  have KV0 := Lib.hid (Blk.new w 43 #[.string vk, .int .i64 vs, .slice Av q.length cv, .bool true])
  have hb := Lib.hid ((Below.refl w.heap.size w).alloc (Nat.le_refl _) (.cells #[.string vk, .int .i64 vs, .slice Av q.length cv, .bool true] 43))
  go_enter Try.func8, Try.ntmps8
  go_wp2_with fail
  obtain ⟨w0, hw0⟩ : ∃ x, x = w.alloc (.cells #[.string vk, .int .i64 vs, .slice Av q.length cv, .bool true] 43) := ⟨_, rfl⟩
  obtain ⟨TVb, hTVb⟩ : ∃ x, x = w.heap.size := ⟨_, rfl⟩
  have HTVb := Lib.hid hTVb
  rw [← hw0] at KV0 hb ⊢
  rw [← hTVb] at KV0 ⊢
  clear hw0 hTVb
  have RV0 := Lib.hid ((HRV.out.below hb.out).more hb.out.size)
  have B0 := hb
  clear hb HRV
  refine awake_any.mono ?_
  rintro e w1 ⟨rfl, hb⟩
  have KV1 := Lib.hid (KV0.out.below' hb)
  have RV1 := Lib.hid ((RV0.out.below hb).more hb.size)
  have B1 := Lib.hid (B0.out.trans (hb.mono B0.out.size))
  clear hb B0 KV0 RV0
  have q0 := KV1.out.cell 0
  have q1 := KV1.out.cell 1
  have q2 := KV1.out.cell 2
  have q3 := KV1.out.cell 3
  simp at q0 q1 q2 q3
  go_wp2_with fail
  clear q0 q1 q2 q3
  refine (ofVersion_any (A := Av) (c := cv) ⟨vk, vs, q, true⟩ RV1.out hlv).mono ?_
  rintro e w2 ⟨A2, c2, he, ho, hb⟩
  obtain rfl : e = .returned (.agg #[.int .i64 5, .int .i64 vs, .int .i64 0, .string vk, .slice A2 q.length c2, .bool true]) := he
  have O2 := Lib.hid (show BReads w2 w2.heap.size A2 q from ho.reads)
  clear ho
  have KV2 := Lib.hid (KV1.out.below' hb)
  have RV2 := Lib.hid ((RV1.out.below hb).more hb.size)
  have B2 := Lib.hid (B1.out.trans (hb.mono B1.out.size))
  clear hb B1 KV1 RV1
  go_wp2_with fail
  refine (version_any (A := A2) (c := c2) ⟨5, vs, 0, vk, q, true⟩ O2.out hlv).mono ?_
  rintro e w3 ⟨A3, c3, he, ho, hb⟩
  obtain rfl : e = .returned (.tuple #[.agg #[.string vk, .int .i64 vs, .slice A3 q.length c3, .bool true], .bool true]) := he
  have O3 := Lib.hid (show BReads w3 w3.heap.size A3 q from ho.reads)
  clear ho O2
  have KV3 := Lib.hid (KV2.out.below' hb)
  have RV3 := Lib.hid ((RV2.out.below hb).more hb.size)
  have B3 := Lib.hid (B2.out.trans (hb.mono B2.out.size))
  clear hb B2 KV2 RV2
  have KX4 := Lib.hid (Blk.new w3 43 #[.string vk, .int .i64 vs, .slice A3 q.length c3, .bool true])
  have hb := Lib.hid ((Below.refl w3.heap.size w3).alloc (Nat.le_refl _) (.cells #[.string vk, .int .i64 vs, .slice A3 q.length c3, .bool true] 43))
  go_upto_region 4 with fail
  obtain ⟨w4, hw4⟩ : ∃ x, x = w3.alloc (.cells #[.string vk, .int .i64 vs, .slice A3 q.length c3, .bool true] 43) := ⟨_, rfl⟩
  obtain ⟨TX, hTX⟩ : ∃ x, x = w3.heap.size := ⟨_, rfl⟩
  have HTX := Lib.hid hTX
  rw [← hw4] at KX4 hb ⊢
  rw [← hTX] at KX4 ⊢
  clear hw4 hTX
  have KV4 := Lib.hid (KV3.out.below' hb.out)
  have RV4 := Lib.hid ((RV3.out.below hb.out).more hb.out.size)
  have O4 := Lib.hid ((O3.out.below hb.out).more hb.out.size)
  have B4 := Lib.hid (B3.out.trans (hb.out.mono B3.out.size))
  clear hb B3 KV3 RV3 O3
  have q0 := KV4.out.cell 0
  have q1 := KV4.out.cell 1
  have q2 := KV4.out.cell 2
  have q3 := KV4.out.cell 3
  simp at q0 q1 q2 q3
  go_wp2_with fail
  clear q0 q1 q2 q3
  refine (ofWrite_any (A := Av) (c := cv) ⟨vk, vs, q, true⟩ RV4.out hlv).mono ?_
  rintro e w5 ⟨A5, c5, he, ho, hb⟩
  obtain rfl : e = .returned (.agg #[.int .i64 2, .int .i64 0, .int .i64 0, .string vk, .slice A5 0 c5, .bool false]) := he
  have P5 := Lib.hid (show BReads w5 w5.heap.size A5 [] from ho.reads)
  clear ho
  have KV5 := Lib.hid (KV4.out.below' hb)
  have KX5 := Lib.hid (KX4.out.below' hb)
  have RV5 := Lib.hid ((RV4.out.below hb).more hb.size)
  have O5 := Lib.hid ((O4.out.below hb).more hb.size)
  have B5 := Lib.hid (B4.out.trans (hb.mono B4.out.size))
  clear hb B4 KV4 KX4 RV4 O4
  go_wp2_with fail
  refine (version_any (A := A5) (c := c5) ⟨2, 0, 0, vk, [], false⟩ P5.out (by show (0 : Nat) ≤ _; omega)).mono ?_
  rintro e w6 ⟨A6, c6, he, ho, hb⟩
  obtain rfl : e = .returned (.tuple #[.agg #[.string vk, .int .i64 0, .slice A6 0 c6, .bool true], .bool true]) := he
  have P6 := Lib.hid (show BReads w6 w6.heap.size A6 [] from ho.reads)
  clear ho P5
  have KV6 := Lib.hid (KV5.out.below' hb)
  have KX6 := Lib.hid (KX5.out.below' hb)
  have RV6 := Lib.hid ((RV5.out.below hb).more hb.size)
  have O6 := Lib.hid ((O5.out.below hb).more hb.size)
  have B6 := Lib.hid (B5.out.trans (hb.mono B5.out.size))
  clear hb B5 KV5 KX5 RV5 O5
  have KY7 := Lib.hid (Blk.new w6 43 #[.string vk, .int .i64 0, .slice A6 0 c6, .bool true])
  have hb := Lib.hid ((Below.refl w6.heap.size w6).alloc (Nat.le_refl _) (.cells #[.string vk, .int .i64 0, .slice A6 0 c6, .bool true] 43))
  go_upto_region 5 with fail
  obtain ⟨w7, hw7⟩ : ∃ x, x = w6.alloc (.cells #[.string vk, .int .i64 0, .slice A6 0 c6, .bool true] 43) := ⟨_, rfl⟩
  obtain ⟨TY, hTY⟩ : ∃ x, x = w6.heap.size := ⟨_, rfl⟩
  have HTY := Lib.hid hTY
  rw [← hw7] at KY7 hb ⊢
  rw [← hTY] at KY7 ⊢
  clear hw7 hTY
  have KV7 := Lib.hid (KV6.out.below' hb.out)
  have KX7 := Lib.hid (KX6.out.below' hb.out)
  have RV7 := Lib.hid ((RV6.out.below hb.out).more hb.out.size)
  have O7 := Lib.hid ((O6.out.below hb.out).more hb.out.size)
  have P7 := Lib.hid ((P6.out.below hb.out).more hb.out.size)
  have B7 := Lib.hid (B6.out.trans (hb.out.mono B6.out.size))
  clear hb B6 KV6 KX6 RV6 O6 P6
  have KW8 := Lib.hid (Blk.new w7 43 #[.string vk, .int .i64 0, .slice Av q.length cv, .bool true])
  have hb := Lib.hid ((Below.refl w7.heap.size w7).alloc (Nat.le_refl _) (.cells #[.string vk, .int .i64 0, .slice Av q.length cv, .bool true] 43))
  have q0 := KV7.out.cell 0
  have q1 := KV7.out.cell 1
  have q2 := KV7.out.cell 2
  have q3 := KV7.out.cell 3
  simp at q0 q1 q2 q3
  go_upto_region 6 with fail
  clear q0 q1 q2 q3
  obtain ⟨w8, hw8⟩ : ∃ x, x = w7.alloc (.cells #[.string vk, .int .i64 0, .slice Av q.length cv, .bool true] 43) := ⟨_, rfl⟩
  obtain ⟨TW, hTW⟩ : ∃ x, x = w7.heap.size := ⟨_, rfl⟩
  have HTW := Lib.hid hTW
  rw [← hw8] at KW8 hb ⊢
  rw [← hTW] at KW8 ⊢
  clear hw8 hTW
  have KV7L := Lib.hid KV7.out.lt
  have KX7L := Lib.hid KX7.out.lt
  have KY7L := Lib.hid KY7.out.lt
  have RV7B := Lib.hid (RV7.out.below hb.out)
  have O7B := Lib.hid (O7.out.below hb.out)
  have P7B := Lib.hid (P7.out.below hb.out)
  have W7L := Lib.hid B7.out.size
  have W78 := Lib.hid hb.out.size
  have KV8 := Lib.hid (KV7.out.below' hb.out)
  have KX8 := Lib.hid (KX7.out.below' hb.out)
  have KY8 := Lib.hid (KY7.out.below' hb.out)
  have RV8 := Lib.hid ((RV7.out.below hb.out).more hb.out.size)
  have O8 := Lib.hid ((O7.out.below hb.out).more hb.out.size)
  have P8 := Lib.hid ((P7.out.below hb.out).more hb.out.size)
  have B8 := Lib.hid (B7.out.trans (hb.out.mono B7.out.size))
  clear hb B7 KV7 KX7 KY7 RV7 O7 P7
  have q0 := KV8.out.cell 0
  have q1 := KV8.out.cell 1
  have q2 := KV8.out.cell 2
  have q3 := KV8.out.cell 3
  simp at q0 q1 q2 q3
  have f2 := KW8.out.frozen 2
  have z2 := KW8.out.cell 2
  simp only [List.getElem?_toArray, List.getElem?_cons_zero, List.getElem?_cons_succ] at z2
  have KK := Lib.hid ((Keeps.refl (fun k => k = TW) w8).setCell (p := ⟨TW, 2, none⟩) (.inl rfl) (.slice none 0 0))
  have KW9 := Lib.hid (show Blk (w8.setCell ⟨TW, 2, none⟩ (.slice none 0 0)) TW 43 #[.string vk, .int .i64 0, .slice none 0 0, .bool true] from by simpa using KW8.out.set_ 2 (.slice none 0 0))
  have KV9 := Lib.hid (KV8.out.keeps KK.out (by have := KV7L.out; have := HTW.out; omega))
  have KX9 := Lib.hid (KX8.out.keeps KK.out (by have := KX7L.out; have := HTW.out; omega))
  have KY9 := Lib.hid (KY8.out.keeps KK.out (by have := KY7L.out; have := HTW.out; omega))
  have hbel := KK.out.below (B := w7.heap.size) (by have := KW8.out.lt; have := HTW.out; omega) (fun i hi => by rw [hi, HTW.out]; exact Nat.le_refl _)
  have B9 := Lib.hid (B8.out.trans (hbel.mono W7L.out))
  have RV9 := Lib.hid (RV7B.out.below hbel)
  have O9 := Lib.hid (O7B.out.below hbel)
  have P9 := Lib.hid (P7B.out.below hbel)
  go_upto_region 8 with fail
  obtain ⟨w9, hw9⟩ : ∃ x, x = w8.setCell ⟨TW, 2, none⟩ (.slice none 0 0) := ⟨_, rfl⟩
  rw [← hw9] at KW9 KV9 KX9 KY9 RV9 O9 P9 B9 ⊢
  have SZ9 := Lib.hid (show w7.heap.size ≤ w9.heap.size from by rw [hw9]; exact Nat.le_trans W78.out hbel.size)
  have R9V := Lib.hid (RV9.more SZ9.out)
  have R9O := Lib.hid (O9.more SZ9.out)
  have R9P := Lib.hid (P9.more SZ9.out)
  clear hw9 q0 q1 q2 q3 f2 z2 KK hbel RV9 O9 P9 KW8 KV8 KX8 KY8 RV8 O8 P8 B8
  have q0 := KX9.out.cell 0
  have q1 := KX9.out.cell 1
  have q2 := KX9.out.cell 2
  have q3 := KX9.out.cell 3
  simp at q0 q1 q2 q3
  have z0 := KV9.out.cell 0
  have z1 := KV9.out.cell 1
  have z2 := KV9.out.cell 2
  have z3 := KV9.out.cell 3
  simp at z0 z1 z2 z3
  go_wp2_with fail
  refine (sameVersion_any (A := A3) (A' := Av) (c := c3) (c' := cv) ⟨vk, vs, q, true⟩ R9O.out R9V.out).mono ?_
  rintro e w10 ⟨rfl, hb⟩
  have KY10 := Lib.hid (KY9.out.below' hb)
  have KW10 := Lib.hid (KW9.out.below' hb)
  have R10V := Lib.hid ((R9V.out.below hb).more hb.size)
  have R10P := Lib.hid ((R9P.out.below hb).more hb.size)
  have B10 := Lib.hid (B9.out.trans (hb.mono B9.out.size))
  clear hb B9 KX9 KV9 KY9 KW9 q0 q1 q2 q3 z0 z1 z2 z3
  have q0 := KY10.out.cell 0
  have q1 := KY10.out.cell 1
  have q2 := KY10.out.cell 2
  have q3 := KY10.out.cell 3
  simp at q0 q1 q2 q3
  have z0 := KW10.out.cell 0
  have z1 := KW10.out.cell 1
  have z2 := KW10.out.cell 2
  have z3 := KW10.out.cell 3
  simp at z0 z1 z2 z3
  go_wp2_with fail
  refine (sameVersion_any (A := A6) (A' := none) (c := c6) (c' := 0) ⟨vk, 0, [], true⟩ R10P.out Reads.none_).mono ?_
  rintro e w11 ⟨rfl, hb⟩
  have B11 := Lib.hid (B10.out.trans (hb.mono B10.out.size))
  clear hb
  go_wp2
  go_ret
  exact ⟨rfl, B11.out⟩
set_option maxRecDepth 100000 in
set_option maxHeartbeats 6400000 in
theorem entryVersions_false {w : World} {Av : Option Addr} {cv : Nat} (vk : ByteArray) (vs : Int) (q : List UInt8) (hrv : BReads w w.heap.size Av q) (hkv : vk.size ≤ 140737488355328) (hlv : q.length ≤ 140737488355328) :
    Calls Try.prog 8 #[.agg #[.string vk, .int .i64 vs, .slice Av q.length cv, .bool false]] w (True_ w) := by
  have HRV := Lib.hid hrv
  clear hrv
  have KV0 := Lib.hid (Blk.new w 43 #[.string vk, .int .i64 vs, .slice Av q.length cv, .bool false])
  have hb := Lib.hid ((Below.refl w.heap.size w).alloc (Nat.le_refl _) (.cells #[.string vk, .int .i64 vs, .slice Av q.length cv, .bool false] 43))
  go_enter Try.func8, Try.ntmps8
  go_wp2_with fail
  obtain ⟨w0, hw0⟩ : ∃ x, x = w.alloc (.cells #[.string vk, .int .i64 vs, .slice Av q.length cv, .bool false] 43) := ⟨_, rfl⟩
  obtain ⟨TVb, hTVb⟩ : ∃ x, x = w.heap.size := ⟨_, rfl⟩
  have HTVb := Lib.hid hTVb
  rw [← hw0] at KV0 hb ⊢
  rw [← hTVb] at KV0 ⊢
  clear hw0 hTVb
  have RV0 := Lib.hid ((HRV.out.below hb.out).more hb.out.size)
  have B0 := hb
  clear hb HRV
  refine awake_any.mono ?_
  rintro e w1 ⟨rfl, hb⟩
  have KV1 := Lib.hid (KV0.out.below' hb)
  have RV1 := Lib.hid ((RV0.out.below hb).more hb.size)
  have B1 := Lib.hid (B0.out.trans (hb.mono B0.out.size))
  clear hb B0 KV0 RV0
  have q0 := KV1.out.cell 0
  have q1 := KV1.out.cell 1
  have q2 := KV1.out.cell 2
  have q3 := KV1.out.cell 3
  simp at q0 q1 q2 q3
  go_wp2_with fail
  clear q0 q1 q2 q3
  refine (ofVersion_any (A := Av) (c := cv) ⟨vk, vs, q, false⟩ RV1.out hlv).mono ?_
  rintro e w2 ⟨A2, c2, he, ho, hb⟩
  obtain rfl : e = .returned (.agg #[.int .i64 5, .int .i64 vs, .int .i64 0, .string vk, .slice A2 q.length c2, .bool false]) := he
  have O2 := Lib.hid (show BReads w2 w2.heap.size A2 q from ho.reads)
  clear ho
  have KV2 := Lib.hid (KV1.out.below' hb)
  have RV2 := Lib.hid ((RV1.out.below hb).more hb.size)
  have B2 := Lib.hid (B1.out.trans (hb.mono B1.out.size))
  clear hb B1 KV1 RV1
  go_wp2_with fail
  refine (version_any (A := A2) (c := c2) ⟨5, vs, 0, vk, q, false⟩ O2.out hlv).mono ?_
  rintro e w3 ⟨A3, c3, he, ho, hb⟩
  obtain rfl : e = .returned (.tuple #[.agg #[.string vk, .int .i64 vs, .slice A3 q.length c3, .bool false], .bool true]) := he
  have O3 := Lib.hid (show BReads w3 w3.heap.size A3 q from ho.reads)
  clear ho O2
  have KV3 := Lib.hid (KV2.out.below' hb)
  have RV3 := Lib.hid ((RV2.out.below hb).more hb.size)
  have B3 := Lib.hid (B2.out.trans (hb.mono B2.out.size))
  clear hb B2 KV2 RV2
  have KX4 := Lib.hid (Blk.new w3 43 #[.string vk, .int .i64 vs, .slice A3 q.length c3, .bool false])
  have hb := Lib.hid ((Below.refl w3.heap.size w3).alloc (Nat.le_refl _) (.cells #[.string vk, .int .i64 vs, .slice A3 q.length c3, .bool false] 43))
  go_upto_region 4 with fail
  obtain ⟨w4, hw4⟩ : ∃ x, x = w3.alloc (.cells #[.string vk, .int .i64 vs, .slice A3 q.length c3, .bool false] 43) := ⟨_, rfl⟩
  obtain ⟨TX, hTX⟩ : ∃ x, x = w3.heap.size := ⟨_, rfl⟩
  have HTX := Lib.hid hTX
  rw [← hw4] at KX4 hb ⊢
  rw [← hTX] at KX4 ⊢
  clear hw4 hTX
  have KV4 := Lib.hid (KV3.out.below' hb.out)
  have RV4 := Lib.hid ((RV3.out.below hb.out).more hb.out.size)
  have O4 := Lib.hid ((O3.out.below hb.out).more hb.out.size)
  have B4 := Lib.hid (B3.out.trans (hb.out.mono B3.out.size))
  clear hb B3 KV3 RV3 O3
  have q0 := KV4.out.cell 0
  have q1 := KV4.out.cell 1
  have q2 := KV4.out.cell 2
  have q3 := KV4.out.cell 3
  simp at q0 q1 q2 q3
  go_wp2_with fail
  clear q0 q1 q2 q3
  refine (ofWrite_any (A := Av) (c := cv) ⟨vk, vs, q, false⟩ RV4.out hlv).mono ?_
  rintro e w5 ⟨A5, c5, he, ho, hb⟩
  obtain rfl : e = .returned (.agg #[.int .i64 1, .int .i64 0, .int .i64 0, .string vk, .slice A5 q.length c5, .bool false]) := he
  have P5 := Lib.hid (show BReads w5 w5.heap.size A5 q from ho.reads)
  clear ho
  have KV5 := Lib.hid (KV4.out.below' hb)
  have KX5 := Lib.hid (KX4.out.below' hb)
  have RV5 := Lib.hid ((RV4.out.below hb).more hb.size)
  have O5 := Lib.hid ((O4.out.below hb).more hb.size)
  have B5 := Lib.hid (B4.out.trans (hb.mono B4.out.size))
  clear hb B4 KV4 KX4 RV4 O4
  go_wp2_with fail
  refine (version_any (A := A5) (c := c5) ⟨1, 0, 0, vk, q, false⟩ P5.out (by exact hlv)).mono ?_
  rintro e w6 ⟨A6, c6, he, ho, hb⟩
  obtain rfl : e = .returned (.tuple #[.agg #[.string vk, .int .i64 0, .slice A6 q.length c6, .bool false], .bool true]) := he
  have P6 := Lib.hid (show BReads w6 w6.heap.size A6 q from ho.reads)
  clear ho P5
  have KV6 := Lib.hid (KV5.out.below' hb)
  have KX6 := Lib.hid (KX5.out.below' hb)
  have RV6 := Lib.hid ((RV5.out.below hb).more hb.size)
  have O6 := Lib.hid ((O5.out.below hb).more hb.size)
  have B6 := Lib.hid (B5.out.trans (hb.mono B5.out.size))
  clear hb B5 KV5 KX5 RV5 O5
  have KY7 := Lib.hid (Blk.new w6 43 #[.string vk, .int .i64 0, .slice A6 q.length c6, .bool false])
  have hb := Lib.hid ((Below.refl w6.heap.size w6).alloc (Nat.le_refl _) (.cells #[.string vk, .int .i64 0, .slice A6 q.length c6, .bool false] 43))
  go_upto_region 5 with fail
  obtain ⟨w7, hw7⟩ : ∃ x, x = w6.alloc (.cells #[.string vk, .int .i64 0, .slice A6 q.length c6, .bool false] 43) := ⟨_, rfl⟩
  obtain ⟨TY, hTY⟩ : ∃ x, x = w6.heap.size := ⟨_, rfl⟩
  have HTY := Lib.hid hTY
  rw [← hw7] at KY7 hb ⊢
  rw [← hTY] at KY7 ⊢
  clear hw7 hTY
  have KV7 := Lib.hid (KV6.out.below' hb.out)
  have KX7 := Lib.hid (KX6.out.below' hb.out)
  have RV7 := Lib.hid ((RV6.out.below hb.out).more hb.out.size)
  have O7 := Lib.hid ((O6.out.below hb.out).more hb.out.size)
  have P7 := Lib.hid ((P6.out.below hb.out).more hb.out.size)
  have B7 := Lib.hid (B6.out.trans (hb.out.mono B6.out.size))
  clear hb B6 KV6 KX6 RV6 O6 P6
  have KW8 := Lib.hid (Blk.new w7 43 #[.string vk, .int .i64 0, .slice Av q.length cv, .bool false])
  have hb := Lib.hid ((Below.refl w7.heap.size w7).alloc (Nat.le_refl _) (.cells #[.string vk, .int .i64 0, .slice Av q.length cv, .bool false] 43))
  have q0 := KV7.out.cell 0
  have q1 := KV7.out.cell 1
  have q2 := KV7.out.cell 2
  have q3 := KV7.out.cell 3
  simp at q0 q1 q2 q3
  go_upto_region 6 with fail
  clear q0 q1 q2 q3
  obtain ⟨w8, hw8⟩ : ∃ x, x = w7.alloc (.cells #[.string vk, .int .i64 0, .slice Av q.length cv, .bool false] 43) := ⟨_, rfl⟩
  obtain ⟨TW, hTW⟩ : ∃ x, x = w7.heap.size := ⟨_, rfl⟩
  have HTW := Lib.hid hTW
  rw [← hw8] at KW8 hb ⊢
  rw [← hTW] at KW8 ⊢
  clear hw8 hTW
  have KV8 := Lib.hid (KV7.out.below' hb.out)
  have KX8 := Lib.hid (KX7.out.below' hb.out)
  have KY8 := Lib.hid (KY7.out.below' hb.out)
  have RV8 := Lib.hid ((RV7.out.below hb.out).more hb.out.size)
  have O8 := Lib.hid ((O7.out.below hb.out).more hb.out.size)
  have P8 := Lib.hid ((P7.out.below hb.out).more hb.out.size)
  have B8 := Lib.hid (B7.out.trans (hb.out.mono B7.out.size))
  clear hb B7 KV7 KX7 KY7 RV7 O7 P7
  have q0 := KV8.out.cell 0
  have q1 := KV8.out.cell 1
  have q2 := KV8.out.cell 2
  have q3 := KV8.out.cell 3
  simp at q0 q1 q2 q3
  go_upto_region 8 with fail
  have R9V := RV8
  have R9O := O8
  have R9P := P8
  clear q0 q1 q2 q3 RV8 O8 P8
  have q0 := KX8.out.cell 0
  have q1 := KX8.out.cell 1
  have q2 := KX8.out.cell 2
  have q3 := KX8.out.cell 3
  simp at q0 q1 q2 q3
  have z0 := KV8.out.cell 0
  have z1 := KV8.out.cell 1
  have z2 := KV8.out.cell 2
  have z3 := KV8.out.cell 3
  simp at z0 z1 z2 z3
  go_wp2_with fail
  refine (sameVersion_any (A := A3) (A' := Av) (c := c3) (c' := cv) ⟨vk, vs, q, false⟩ R9O.out R9V.out).mono ?_
  rintro e w10 ⟨rfl, hb⟩
  have KY10 := Lib.hid (KY8.out.below' hb)
  have KW10 := Lib.hid (KW8.out.below' hb)
  have R10V := Lib.hid ((R9V.out.below hb).more hb.size)
  have R10P := Lib.hid ((R9P.out.below hb).more hb.size)
  have B10 := Lib.hid (B8.out.trans (hb.mono B8.out.size))
  clear hb B8 KX8 KV8 KY8 KW8 q0 q1 q2 q3 z0 z1 z2 z3
  have q0 := KY10.out.cell 0
  have q1 := KY10.out.cell 1
  have q2 := KY10.out.cell 2
  have q3 := KY10.out.cell 3
  simp at q0 q1 q2 q3
  have z0 := KW10.out.cell 0
  have z1 := KW10.out.cell 1
  have z2 := KW10.out.cell 2
  have z3 := KW10.out.cell 3
  simp at z0 z1 z2 z3
  go_wp2_with fail
  refine (sameVersion_any (A := A6) (A' := Av) (c := c6) (c' := cv) ⟨vk, 0, q, false⟩ R10P.out R10V.out).mono ?_
  rintro e w11 ⟨rfl, hb⟩
  have B11 := Lib.hid (B10.out.trans (hb.mono B10.out.size))
  clear hb
  go_wp2
  go_ret
  exact ⟨rfl, B11.out⟩
theorem entryVersions_walk {w : World} {Av : Option Addr} {cv : Nat} (v : Vn) (hrv : BReads w w.heap.size Av v.value) (hkv : v.key.size ≤ 140737488355328) (hlv : v.value.length ≤ 140737488355328) :
    Calls Try.prog 8 #[.agg (v.cells Av cv)] w (True_ w) := by
  obtain ⟨vk, vs, q, vd⟩ := v
  cases vd
  · exact entryVersions_false vk vs q hrv hkv hlv
  · exact entryVersions_true vk vs q hrv hkv hlv
end Go.Proofs.Ytnnladfndmdapaa
