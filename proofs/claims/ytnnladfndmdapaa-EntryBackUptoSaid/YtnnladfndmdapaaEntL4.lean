/- EntryBack: the walk (printed by a program of this claim's own). -/
import Derived.Test.YtnnladfndmdapaaEntL2
namespace Go.Proofs.Ytnnladfndmdapaa
open Go.RowKit

theorem rt_eq {b : List UInt8} {x : En} {t t' : Int} (h : RTells b x t) (e : t' = t) : RTells b x t' := by rw [e]; exact h
theorem rtells_at {x : En} (hm : x.may) (z : List UInt8) : RTells (x.enc ++ z) x (x.enc.length : Int) := by
  have hb := En.may_bounds hm
  obtain ⟨k, s, n, key, v, d⟩ := x
  have hkl := str_length key
  simp only at hb
  rcases (show k = 1 ∨ k = 2 ∨ k = 5 ∨ (k = 3 ∨ k = 4 ∨ k = 6) from by omega) with rfl | rfl | rfl | hk
  · rw [may_1] at hm
    obtain ⟨_, _, rfl, rfl, rfl, _⟩ := hm
    have e : En.enc ⟨1, 0, 0, key, v, false⟩ = [1] ++ intF key.size ++ key.data.toList ++ intF v.length ++ v := rfl
    have d1 : (En.enc ⟨1, 0, 0, key, v, false⟩ ++ z).drop (1 : Int).toNat = intF key.data.toList.length ++ key.data.toList ++ (intF v.length ++ v ++ z) := by rw [hkl, e]; simp
    have h1 := rowA_there (most := 255) d1 (by omega) (by omega) (by omega)
    have d2 := len_of (by omega) d1
    have h2 := rowA_there (most := 4096) d2 (by omega) (by omega) (by omega)
    have := rdec_1 (b := En.enc ⟨1, 0, 0, key, v, false⟩ ++ z) (r := intF key.size ++ key.data.toList ++ intF v.length ++ v ++ z) (by rw [e]; simp) h1 h2
    rw [ba_eta] at this
    exact rt_eq this (by rw [e, ← hkl]; simp only [List.length_append, List.length_cons, List.length_nil]; omega)
  · rw [may_2] at hm
    obtain ⟨_, _, rfl, rfl, rfl, hv⟩ := hm
    obtain rfl := List.eq_nil_of_length_eq_zero hv
    have e : En.enc ⟨2, 0, 0, key, [], false⟩ = [2] ++ intF key.size ++ key.data.toList := rfl
    have d1 : (En.enc ⟨2, 0, 0, key, [], false⟩ ++ z).drop (1 : Int).toNat = intF key.data.toList.length ++ key.data.toList ++ z := by rw [hkl, e]; simp
    have h1 := rowA_there (most := 255) d1 (by omega) (by omega) (by omega)
    have := rdec_2 (b := En.enc ⟨2, 0, 0, key, [], false⟩ ++ z) (r := intF key.size ++ key.data.toList ++ z) (by rw [e]; simp) h1
    rw [ba_eta] at this
    exact rt_eq this (by rw [e, ← hkl]; simp only [List.length_append, List.length_cons, List.length_nil]; omega)
  · rw [may_5] at hm
    obtain ⟨_, _, _, _, rfl, _, _⟩ := hm
    have e : En.enc ⟨5, s, 0, key, v, d⟩ = [5] ++ intF key.size ++ key.data.toList ++ intF s ++ [if d then 1 else 0] ++ intF v.length ++ v := rfl
    obtain ⟨b, hbb⟩ : ∃ b, b = En.enc ⟨5, s, 0, key, v, d⟩ ++ z := ⟨_, rfl⟩
    have d1 : b.drop (1 : Int).toNat = intF key.data.toList.length ++ key.data.toList ++ (intF s ++ ((if d then (1 : UInt8) else 0) :: (intF v.length ++ v ++ z))) := by rw [hkl, hbb, e]; simp
    have h1 := rowA_there (most := 255) d1 (by omega) (by omega) (by omega)
    have d2 := len_of (by omega) d1
    have h2 := numA_there (most := 4611686018427387904) d2 (by omega) (by omega) (by omega) (by omega)
    have d3 := len_of (by omega) d2
    obtain ⟨K, hK⟩ : ∃ K : Nat, (1 + ((intF key.data.toList.length ++ key.data.toList).length : Int) + ((intF s).length : Int)) = K := ⟨1 + (intF key.data.toList.length ++ key.data.toList).length + (intF s).length, by omega⟩
    rw [hK] at h2 d3
    rw [Int.toNat_natCast] at d3
    have hKl : K < b.length := by
      have := congrArg List.length d3
      rw [List.length_drop, List.length_cons] at this; omega
    obtain ⟨e1, e2⟩ := dead_at hKl d3
    have d4 : b.drop ((K : Int) + 1).toNat = intF v.length ++ v ++ z := by rw [show ((K : Int) + 1).toNat = K + 1 from by omega]; exact e2
    have h4 := rowA_there (most := 4096) d4 (by omega) (by omega) (by omega)
    have := rdec_5 (d := d) (b := b) (r := intF key.size ++ key.data.toList ++ intF s ++ [if d then 1 else 0] ++ intF v.length ++ v ++ z) (by rw [hbb, e]; simp) h1 h2 hKl e1 h4
    rw [ba_eta] at this
    rw [← hbb]
    exact rt_eq this (by rw [e, ← hK, ← hkl]; simp only [List.length_append, List.length_cons, List.length_nil]; omega)
  · rw [may_m hk] at hm
    obtain ⟨hkz, _, _, _, _, rfl, hv⟩ := hm
    obtain rfl := List.eq_nil_of_length_eq_zero hv
    obtain rfl := str_empty hkz
    obtain ⟨x, hx⟩ : ∃ x : UInt8, (x.toNat : Int) = k := ⟨UInt8.ofNat k.toNat, by rw [u8_int _ (by omega)]; omega⟩
    subst hx
    have e : En.enc ⟨(x.toNat : Int), s, n, ⟨#[]⟩, [], false⟩ = [x] ++ intF s ++ intF n := by rw [enc_m hk, Int.toNat_natCast]; simp
    have d1 : (En.enc ⟨(x.toNat : Int), s, n, ⟨#[]⟩, [], false⟩ ++ z).drop (1 : Int).toNat = intF s ++ (intF n ++ z) := by rw [e]; simp
    have h1 := numA_there (most := 4611686018427387904) d1 (by omega) (by omega) (by omega) (by omega)
    have d2 := len_of (by omega) d1
    have h2 := numA_there (most := 2147483647) d2 (by omega) (by omega) (by omega) (by omega)
    have := rdec_m (b := En.enc ⟨(x.toNat : Int), s, n, ⟨#[]⟩, [], false⟩ ++ z) (r := intF s ++ intF n ++ z) (x := x) (by omega) (by rw [e]; simp) h1 h2
    exact rt_eq this (by rw [e]; simp only [List.length_append, List.length_cons, List.length_nil]; omega)
/-- No entry's bytes are a beginning of another one's. -/
theorem enc_prefix {x : En} (hx : x.may) {z : List UInt8} (hz : z ≠ []) : ¬ ∃ y : En, y.may ∧ y.enc = x.enc ++ z := by
  rintro ⟨y, hy, h⟩
  have := ((rtells_at hx z).1 y hy h).2
  rw [List.length_append] at this
  exact hz (List.eq_nil_of_length_eq_zero (by omega))
theorem enc_cut {x : En} (hx : x.may) {n : Nat} (hn : n < x.enc.length) : ¬ ∃ y : En, y.may ∧ y.enc = x.enc.take n := by
  rintro ⟨y, hy, h⟩
  refine enc_prefix hy (z := x.enc.drop n) (fun e => ?_) ⟨x, hx, by rw [h, List.take_append_drop]⟩
  have := congrArg List.length e
  rw [List.length_drop, List.length_nil] at this; omega
theorem take_reads {w : World} {B k : Nat} {A : Option Addr} {l : List UInt8} (h : BReads w B A l) : BReads w B A (l.take k) := by
  refine ⟨by rw [bys_length, Nat.mul_one], fun hp => ?_⟩
  rw [List.length_take] at hp
  obtain ⟨b, off, e, hb, hc⟩ := h.2 (by omega)
  refine ⟨b, off, e, hb, fun j u hu => hc j u ?_⟩
  have hj : j < (l.take k).length := by have := (List.getElem?_eq_some_iff.1 hu).1; rwa [bys_length] at this
  rw [← hu, bys_get, bys_get, List.getElem?_take, if_pos (by rw [List.length_take] at hj; omega)]
theorem own_base {w : World} {base : Nat} {v : Value} {l : List UInt8} (h : BOwns w base v l) : ∀ g, v.ownBlock = some g → base ≤ g := by
  intro g hg
  rcases h.2 with ⟨rfl, _⟩ | ⟨g', cap, cur, rfl, hb, _⟩
  · simp [Value.ownBlock] at hg
  · simp [Value.ownBlock] at hg; omega
theorem dec_no {w w' : World} {b : List UInt8} {e : Ending} (h : DecPost w b e w') (hn : ¬ ∃ y : En, y.may ∧ y.enc = b) : e = .returned (.tuple #[.agg #[.int .i64 0, .int .i64 0, .int .i64 0, .string ⟨#[]⟩, .slice none 0 0, .bool false], .int .i64 100]) ∧ Below w.heap.size w w' := by
  rcases h with ⟨x, h1, h2, _⟩ | ⟨_, h1, h2⟩
  · exact absurd ⟨x, h1, h2⟩ hn
  · exact ⟨h1, h2⟩
set_option maxRecDepth 100000 in
set_option maxHeartbeats 6400000 in
theorem entryBack_walk {w : World} {Ae : Option Addr} {ce : Nat} (x : En) (hre : BReads w w.heap.size Ae x.value) {Ab : Option Addr} {cb : Nat} {b : List UInt8} (hrb : BReads w w.heap.size Ab b)
    {Am : Option Addr} {cm : Nat} {more : List UInt8} (hrm : BReads w w.heap.size Am more) (hbulk : x.key.size + x.value.length + b.length + more.length ≤ 1048576) :
    Calls Try.prog 6 #[.agg (x.cells Ae ce), .slice Ab b.length cb, .slice Am more.length cm] w (True_ w) := by
  have hke : x.key.size ≤ 140737488355328 := by omega
  have hle : x.value.length ≤ 140737488355328 := by omega
  have hlb : b.length ≤ 140737488355328 := by omega
  have hlm : more.length ≤ 1048576 := by omega
  clear hbulk
  obtain ⟨k, s, n, key, p, d⟩ := x
  have RE := Lib.hid hre
  have RB := Lib.hid hrb
  have RM := Lib.hid hrm
  have K0 := Lib.hid (Blk.new w 25 #[.int .i64 k, .int .i64 s, .int .i64 n, .string key, .slice Ae p.length ce, .bool d])
  have hb := Lib.hid ((Below.refl w.heap.size w).alloc (Nat.le_refl _) (.cells #[.int .i64 k, .int .i64 s, .int .i64 n, .string key, .slice Ae p.length ce, .bool d] 25))
  clear hre hrb hrm
  unfold En.cells
  simp only at hke hle RE ⊢
  go_enter Try.func6, Try.ntmps6
  go_wp2_with fail
  obtain ⟨w0, hw0⟩ : ∃ x, x = w.alloc (.cells #[.int .i64 k, .int .i64 s, .int .i64 n, .string key, .slice Ae p.length ce, .bool d] 25) := ⟨_, rfl⟩
  obtain ⟨TX, hTX⟩ : ∃ x, x = w.heap.size := ⟨_, rfl⟩
  have HTX := Lib.hid hTX
  rw [← hw0] at K0 hb ⊢
  rw [← hTX] at K0 ⊢
  clear hw0 hTX
  have RE0 := Lib.hid ((RE.out.below hb.out).more hb.out.size)
  have RB0 := Lib.hid ((RB.out.below hb.out).more hb.out.size)
  have RM0 := Lib.hid ((RM.out.below hb.out).more hb.out.size)
  have B0 := hb
  clear hb RE RB RM
  refine awake_any.mono ?_
  rintro e w1 ⟨rfl, hb⟩
  have K1 := Lib.hid (K0.out.below' hb)
  have RE1 := Lib.hid ((RE0.out.below hb).more hb.size)
  have RB1 := Lib.hid ((RB0.out.below hb).more hb.size)
  have RM1 := Lib.hid ((RM0.out.below hb).more hb.size)
  have B1 := Lib.hid (B0.out.trans (hb.mono B0.out.size))
  clear hb B0 K0 RE0 RB0 RM0
  have q0 := K1.out.cell 0
  have q1 := K1.out.cell 1
  have q2 := K1.out.cell 2
  have q3 := K1.out.cell 3
  have q4 := K1.out.cell 4
  have q5 := K1.out.cell 5
  simp at q0 q1 q2 q3 q4 q5
  go_wp2_with fail
  clear q0 q1 q2 q3 q4 q5
  refine (clone_any (c := ce) ⟨k, s, n, key, p, d⟩ RE1.out hle).mono ?_
  rintro e w2 ⟨A2, c2, he, ho, hb⟩
  obtain rfl : e = .returned (.agg #[.int .i64 k, .int .i64 s, .int .i64 n, .string key, .slice A2 p.length c2, .bool d]) := he
  have RC2 := Lib.hid (show BReads w2 w2.heap.size A2 p from ho.reads)
  clear ho
  have K2 := Lib.hid (K1.out.below' hb)
  have RE2 := Lib.hid ((RE1.out.below hb).more hb.size)
  have RB2 := Lib.hid ((RB1.out.below hb).more hb.size)
  have RM2 := Lib.hid ((RM1.out.below hb).more hb.size)
  have B2 := Lib.hid (B1.out.trans (hb.mono B1.out.size))
  clear hb B1 K1 RE1 RB1 RM1
  go_wp2_with fail
  refine (encode_any (A := A2) (c := c2) ⟨k, s, n, key, p, d⟩ RC2.out hke hle).mono ?_
  rintro e w3 h
  rcases h with ⟨hm, v', rfl, ho, hb⟩ | ⟨hm, rfl, hb⟩
  · obtain ⟨A3, c3, rfl, hcap3, hr3⟩ := BOwns.slice ho
    obtain ⟨T, hT⟩ : ∃ T, T = En.enc ⟨k, s, n, key, p, d⟩ := ⟨_, rfl⟩
    rw [← hT] at hr3 hcap3 ⊢
    have hTl : T.length ≤ 5000 := by rw [hT]; exact En.enc_len hm
    have HT := Lib.hid hT
    have HM := Lib.hid hm
    have RT3 := Lib.hid hr3
    clear hr3 ho hT hm RC2
    have K3 := Lib.hid (K2.out.below' hb)
    have RE3 := Lib.hid ((RE2.out.below hb).more hb.size)
    have RB3 := Lib.hid ((RB2.out.below hb).more hb.size)
    have RM3 := Lib.hid ((RM2.out.below hb).more hb.size)
    have B3 := Lib.hid (B2.out.trans (hb.mono B2.out.size))
    clear hb B2 K2 RE2 RB2 RM2
    go_wp2_with fail
    refine (decode_any RT3.out (by omega)).mono ?_
    rintro e w4 h
    obtain ⟨A4, c4, he, ho, hb⟩ := dec_hit h HM.out HT.out.symm
    obtain rfl : e = .returned (.tuple #[.agg #[.int .i64 k, .int .i64 s, .int .i64 n, .string key, .slice A4 p.length c4, .bool d], .int .i64 0]) := he
    have RX4 := Lib.hid (show BReads w4 w4.heap.size A4 p from ho.reads)
    clear ho h
    have K4 := Lib.hid (K3.out.below' hb)
    have RE4 := Lib.hid ((RE3.out.below hb).more hb.size)
    have RB4 := Lib.hid ((RB3.out.below hb).more hb.size)
    have RM4 := Lib.hid ((RM3.out.below hb).more hb.size)
    have RT4 := Lib.hid ((RT3.out.below hb).more hb.size)
    have B4 := Lib.hid (B3.out.trans (hb.mono B3.out.size))
    clear hb B3 K3 RE3 RB3 RM3 RT3
    have KX5 := Lib.hid (Blk.new w4 25 #[.int .i64 k, .int .i64 s, .int .i64 n, .string key, .slice A4 p.length c4, .bool d])
    have hb := Lib.hid ((Below.refl w4.heap.size w4).alloc (Nat.le_refl _) (.cells #[.int .i64 k, .int .i64 s, .int .i64 n, .string key, .slice A4 p.length c4, .bool d] 25))
    go_upto_region 6 with fail
    obtain ⟨w5, hw5⟩ : ∃ x, x = w4.alloc (.cells #[.int .i64 k, .int .i64 s, .int .i64 n, .string key, .slice A4 p.length c4, .bool d] 25) := ⟨_, rfl⟩
    obtain ⟨TY, hTY⟩ : ∃ x, x = w4.heap.size := ⟨_, rfl⟩
    have HTY := Lib.hid hTY
    rw [← hw5] at KX5 hb ⊢
    rw [← hTY] at KX5 ⊢
    clear hw5 hTY
    have K5 := Lib.hid (K4.out.below' hb.out)
    have RE5 := Lib.hid ((RE4.out.below hb.out).more hb.out.size)
    have RB5 := Lib.hid ((RB4.out.below hb.out).more hb.out.size)
    have RM5 := Lib.hid ((RM4.out.below hb.out).more hb.out.size)
    have RT5 := Lib.hid ((RT4.out.below hb.out).more hb.out.size)
    have RX5 := Lib.hid ((RX4.out.below hb.out).more hb.out.size)
    have B5 := Lib.hid (B4.out.trans (hb.out.mono B4.out.size))
    clear hb B4 K4 RE4 RB4 RM4 RT4 RX4
    have q0 := KX5.out.cell 0
    have q1 := KX5.out.cell 1
    have q2 := KX5.out.cell 2
    have q3 := KX5.out.cell 3
    have q4 := KX5.out.cell 4
    have q5 := KX5.out.cell 5
    simp at q0 q1 q2 q3 q4 q5
    have z0 := K5.out.cell 0
    have z1 := K5.out.cell 1
    have z2 := K5.out.cell 2
    have z3 := K5.out.cell 3
    have z4 := K5.out.cell 4
    have z5 := K5.out.cell 5
    simp at z0 z1 z2 z3 z4 z5
    go_wp2_with fail
    clear q0 q1 q2 q3 q4 q5
    clear z0 z1 z2 z3 z4 z5
    refine (same_any (A := A4) (A' := Ae) (c := c4) (c' := ce) ⟨k, s, n, key, p, d⟩ RX5.out RE5.out).mono ?_
    rintro e w6 ⟨rfl, hb⟩
    clear KX5 RX5
    have K6 := Lib.hid (K5.out.below' hb)
    have RE6 := Lib.hid ((RE5.out.below hb).more hb.size)
    have RB6 := Lib.hid ((RB5.out.below hb).more hb.size)
    have RM6 := Lib.hid ((RM5.out.below hb).more hb.size)
    have RT6 := Lib.hid ((RT5.out.below hb).more hb.size)
    have B6 := Lib.hid (B5.out.trans (hb.mono B5.out.size))
    clear hb B5 K5 RE5 RB5 RM5 RT5
    have q0 := K6.out.cell 0
    have q1 := K6.out.cell 1
    have q2 := K6.out.cell 2
    have q3 := K6.out.cell 3
    have q4 := K6.out.cell 4
    have q5 := K6.out.cell 5
    simp at q0 q1 q2 q3 q4 q5
    go_wp2_with fail
    clear q0 q1 q2 q3 q4 q5
    refine (clone_any (c := ce) ⟨k, s, n, key, p, d⟩ RE6.out hle).mono ?_
    rintro e w7 ⟨A7, c7, he, ho, hb⟩
    obtain rfl : e = .returned (.agg #[.int .i64 k, .int .i64 s, .int .i64 n, .string key, .slice A7 p.length c7, .bool d]) := he
    clear ho
    have K7 := Lib.hid (K6.out.below' hb)
    have RE7 := Lib.hid ((RE6.out.below hb).more hb.size)
    have RB7 := Lib.hid ((RB6.out.below hb).more hb.size)
    have RM7 := Lib.hid ((RM6.out.below hb).more hb.size)
    have RT7 := Lib.hid ((RT6.out.below hb).more hb.size)
    have B7 := Lib.hid (B6.out.trans (hb.mono B6.out.size))
    clear hb B6 K6 RE6 RB6 RM6 RT6
    go_wp2_with fail
    refine (check_any (A := A7) (c := c7) ⟨k, s, n, key, p, d⟩ hke hle).mono ?_
    rintro e w8 ⟨he, hb⟩
    rw [En.chk_ok HM.out] at he
    subst he
    clear RE7 K7
    have RB8 := Lib.hid ((RB7.out.below hb).more hb.size)
    have RM8 := Lib.hid ((RM7.out.below hb).more hb.size)
    have RT8 := Lib.hid ((RT7.out.below hb).more hb.size)
    have B8 := Lib.hid (B7.out.trans (hb.mono B7.out.size))
    clear hb B7 RB7 RM7 RT7
    go_wp2
    go_loopw [11] (fun i wr => ∃ (N : Nat), i = .int .i64 N ∧ N ≤ T.length ∧ Hid (Below w8.heap.size w8 wr)) (fun i _ => T.length - (intOf i).toNat)
    case atStart => exact ⟨0, rfl, by omega, Lib.hid (Below.refl _ _)⟩
    case round =>
      obtain ⟨N, rfl, hN, hBW⟩ := hrel
      by_cases hlt : (N : Int) < T.length
      · obtain ⟨P, hP⟩ : ∃ P, P = T.take N := ⟨_, rfl⟩
        have HPL := Lib.hid (show P.length = N from by rw [hP, List.length_take]; omega)
        have HPE := Lib.hid (show ¬ ∃ y : En, y.may ∧ y.enc = P from by rw [hP, HT.out]; exact enc_cut HM.out (by rw [← HT.out]; omega))
        have HS := take_reads (k := N) (RT8.out.below hBW.out)
        rw [← hP] at HS
        have hsrc := HS.src (c := c3)
        rw [HPL.out] at hsrc
        have HSRC := Lib.hid hsrc
        have hNc : (N : Int) ≤ (c3 : Int) := by omega
        clear hP HS hsrc
        go_wp2_with (at_builtin; refine Stop.of ?_)
        refine ⟨append_bytes (BOwns.nil _ _) (l := []) (m := P) (by rw [HPL.out]; exact HSRC.out) (by rw [HPL.out]; simp; omega) (Nat.le_refl _) rfl rfl rfl rfl ?_⟩
        intro v' w9 hown hg _
        obtain ⟨A9, c9, rfl, _, hr1⟩ := BOwns.slice hown
        have R9 := Lib.hid (show BReads w9 w9.heap.size A9 P from hr1)
        have B9 := Lib.hid (below_of_nil hg)
        rw [show (([] : List UInt8) ++ P).length = P.length from rfl]
        clear hown hg hr1 HSRC
        go_wp2_with fail
        refine (decode_any R9.out (by rw [HPL.out]; omega)).mono ?_
        rintro e w10 h
        obtain ⟨rfl, hb⟩ := dec_no h HPE.out
        have B10 := Lib.hid (hBW.out.trans ((B9.out.trans (hb.mono B9.out.size)).mono hBW.out.size))
        clear h hb B9 hBW R9
        go_wp2
        exact ⟨⟨N + 1, by go_num, by omega, Lib.hid (B10.out.alloc B10.out.size _)⟩, by simp [intOf]; omega⟩
      · have RBr := Lib.hid ((RB8.out.below hBW.out).more hBW.out.size)
        have RMr := Lib.hid ((RM8.out.below hBW.out).more hBW.out.size)
        have RTr := Lib.hid ((RT8.out.below hBW.out).more hBW.out.size)
        have Br := Lib.hid (B8.out.trans (hBW.out.mono B8.out.size))
        obtain ⟨wr', hwr⟩ : ∃ x, x = wr := ⟨_, rfl⟩
        clear hBW RB8 RM8 RT8 B8
        by_cases hm0 : more.length = 0
        · have hmz : ¬ (0 : Int) < (more.length : Int) := by omega
          have HM0 := Lib.hid hm0
          clear hm0
          go_upto_region 20 with fail
          go_wp2_with (at_builtin; refine Stop.of ?_)
          refine ⟨append_bytes (BOwns.nil _ _) (l := []) (m := b) (RBr.out.src) (by simp; omega) (Nat.le_refl _) rfl rfl rfl rfl ?_⟩
          intro v' wrt0 hown hg _
          obtain ⟨At, crt0, rfl, hcaprt0, hr1⟩ := BOwns.slice hown
          have hb := below_of_nil hg
          have RTrt0 := Lib.hid (show BReads wrt0 wrt0.heap.size At (b) from hr1)
          have ORTrt0 := Lib.hid (show BOwns wrt0 wr.heap.size (.slice At (b).length crt0) (b) from hown)
          rw [show (([] : List UInt8) ++ (b)).length = (b).length from rfl]
          clear hown hg hr1 hcaprt0
          have RBrt0 := Lib.hid ((RBr.out.below hb).more hb.size)
          have Brt0 := Lib.hid (Br.out.trans (hb.mono Br.out.size))
          clear hb Br RBr
          go_wp2_with fail
          refine (decode_any RTrt0.out hlb).mono ?_
          rintro e wrt1 h
          rcases h with ⟨y, hm, he, A9, c9, rfl, ho, hb⟩ | ⟨hno, rfl, hb⟩
          · obtain ⟨yk, ys, yn, ykey, yp, yd⟩ := y
            have hmb := En.may_bounds hm
            simp only at hmb
            have HM := Lib.hid hm
            have HE := Lib.hid he
            have R9 := Lib.hid (show BReads wrt1 wrt1.heap.size A9 yp from ho.reads)
            have hks : ykey.size ≤ 140737488355328 := by omega
            have hvs : yp.length ≤ 140737488355328 := by omega
            clear hm he ho hmb RTrt0 ORTrt0
            have RBrt1 := Lib.hid ((RBrt0.out.below hb).more hb.size)
            have Brt1 := Lib.hid (Brt0.out.trans (hb.mono Brt0.out.size))
            clear hb Brt0 RBrt0
            unfold En.cells
            simp only
            have KZrt2 := Lib.hid (Blk.new wrt1 25 #[.int .i64 yk, .int .i64 ys, .int .i64 yn, .string ykey, .slice A9 yp.length c9, .bool yd])
            have hb := Lib.hid ((Below.refl wrt1.heap.size wrt1).alloc (Nat.le_refl _) (.cells #[.int .i64 yk, .int .i64 ys, .int .i64 yn, .string ykey, .slice A9 yp.length c9, .bool yd] 25))
            go_upto_region 21 with fail
            obtain ⟨wrt2, hwrt2⟩ : ∃ x, x = wrt1.alloc (.cells #[.int .i64 yk, .int .i64 ys, .int .i64 yn, .string ykey, .slice A9 yp.length c9, .bool yd] 25) := ⟨_, rfl⟩
            obtain ⟨TZ, hTZ⟩ : ∃ x, x = wrt1.heap.size := ⟨_, rfl⟩
            have HTZ := Lib.hid hTZ
            rw [← hwrt2] at KZrt2 hb ⊢
            rw [← hTZ] at KZrt2 ⊢
            clear hwrt2 hTZ
            have R10 := Lib.hid ((R9.out.below hb.out).more hb.out.size)
            have RBrt2 := Lib.hid ((RBrt1.out.below hb.out).more hb.out.size)
            have Brt2 := Lib.hid (Brt1.out.trans (hb.out.mono Brt1.out.size))
            clear hb Brt1 RBrt1
            have q0 := KZrt2.out.cell 0
            have q1 := KZrt2.out.cell 1
            have q2 := KZrt2.out.cell 2
            have q3 := KZrt2.out.cell 3
            have q4 := KZrt2.out.cell 4
            have q5 := KZrt2.out.cell 5
            simp at q0 q1 q2 q3 q4 q5
            go_wp2_with fail
            refine (encode_any (A := A9) (c := c9) ⟨yk, ys, yn, ykey, yp, yd⟩ R10.out hks hvs).mono ?_
            rintro e wrt3 h
            rcases h with ⟨_, v', rfl, ho, hb⟩ | ⟨hm, _⟩
            case inr => exact absurd HM.out hm
            rw [HE.out] at ho
            obtain ⟨A11, c11, rfl, _, hr11⟩ := BOwns.slice ho
            have k1 := conv_text hr11 c11
            have k2 := conv_text (RBrt2.out.below hb) cb
            obtain ⟨tx, htx⟩ : ∃ t : ByteArray, t = ⟨b.toArray⟩ := ⟨_, rfl⟩
            obtain ⟨mm, hmm⟩ : ∃ m, m = b.length := ⟨_, rfl⟩
            rw [← hmm, ← htx] at k1 k2
            rw [← hmm]
            clear htx hmm ho hr11 q0 q1 q2 q3 q4 q5
            have Brt3 := Lib.hid (Brt2.out.trans (hb.mono Brt2.out.size))
            clear hb Brt2 
            go_wp2
            go_ret
            exact ⟨rfl, Brt3.out⟩
          · clear hno RTrt0 ORTrt0
            have Brt1 := Lib.hid (Brt0.out.trans (hb.mono Brt0.out.size))
            clear hb Brt0 
            unfold En.cells
            simp only
            have KZrt2 := Lib.hid (Blk.new wrt1 25 #[.int .i64 0, .int .i64 0, .int .i64 0, .string ⟨#[]⟩, .slice none 0 0, .bool false])
            have hb := Lib.hid ((Below.refl wrt1.heap.size wrt1).alloc (Nat.le_refl _) (.cells #[.int .i64 0, .int .i64 0, .int .i64 0, .string ⟨#[]⟩, .slice none 0 0, .bool false] 25))
            go_upto_region 21 with fail
            obtain ⟨wrt2, hwrt2⟩ : ∃ x, x = wrt1.alloc (.cells #[.int .i64 0, .int .i64 0, .int .i64 0, .string ⟨#[]⟩, .slice none 0 0, .bool false] 25) := ⟨_, rfl⟩
            obtain ⟨TZ, hTZ⟩ : ∃ x, x = wrt1.heap.size := ⟨_, rfl⟩
            have HTZ := Lib.hid hTZ
            rw [← hwrt2] at KZrt2 hb ⊢
            rw [← hTZ] at KZrt2 ⊢
            clear hwrt2 hTZ
            have Brt2 := Lib.hid (Brt1.out.trans (hb.out.mono Brt1.out.size))
            clear hb Brt1 
            have q0 := KZrt2.out.cell 0
            have q1 := KZrt2.out.cell 1
            have q2 := KZrt2.out.cell 2
            have q3 := KZrt2.out.cell 3
            have q4 := KZrt2.out.cell 4
            have q5 := KZrt2.out.cell 5
            simp at q0 q1 q2 q3 q4 q5
            go_wp2_with fail
            refine (same_any (A := none) (A' := none) (c := 0) (c' := 0) En.zero Reads.none_ Reads.none_).mono ?_
            rintro e wrt3 ⟨rfl, hb⟩
            have Brt3 := Lib.hid (Brt2.out.trans (hb.mono Brt2.out.size))
            clear hb Brt2 
            go_wp2
            go_ret
            exact ⟨rfl, Brt3.out⟩
        · have hmp : (0 : Int) < (more.length : Int) := by omega
          have HMN := Lib.hid (show more ≠ [] from fun e => hm0 (by rw [e]; rfl))
          clear hm0
          go_wp2_with (at_builtin; refine Stop.of ?_)
          refine ⟨append_bytes (BOwns.nil _ _) (l := []) (m := T) (RTr.out.src) (by simp; omega) (Nat.le_refl _) rfl rfl rfl rfl ?_⟩
          intro v' wr1 hown hg _
          obtain ⟨Ar1, cr1, rfl, hcapr1, hr1⟩ := BOwns.slice hown
          have hb := below_of_nil hg
          have W0L := Lib.hid Br.out.size
          have RPr1 := Lib.hid (show BReads wr1 wr1.heap.size Ar1 (T) from hr1)
          have ORPr1 := Lib.hid (show BOwns wr1 wr.heap.size (.slice Ar1 (T).length cr1) (T) from hown)
          rw [show (([] : List UInt8) ++ (T)).length = (T).length from rfl]
          clear hown hg hr1 hcapr1
          have RBr1 := Lib.hid ((RBr.out.below hb).more hb.size)
          have RMr1 := Lib.hid ((RMr.out.below hb).more hb.size)
          have Br1 := Lib.hid (Br.out.trans (hb.mono Br.out.size))
          have W1L := Lib.hid hb.size
          have RBL := Lib.hid (RBr.out.below hb)
          clear hb Br RBr RMr
          go_wp2_with (at_builtin; refine Stop.of ?_)
          refine ⟨append_bytes ORPr1.out (m := more) RMr1.out.src (by omega) W1L.out rfl rfl rfl rfl ?_⟩
          intro v' wr2 hown hg _
          obtain ⟨TM, hTM⟩ : ∃ L, L = T ++ more := ⟨_, rfl⟩
          rw [← hTM] at hown
          obtain ⟨Ar2, cr2, rfl, _, hr1⟩ := BOwns.slice hown
          have HTM := Lib.hid hTM
          have hTMl : TM.length ≤ 140737488355328 := by rw [hTM, List.length_append]; omega
          have R2 := Lib.hid hr1
          have KG := Lib.hid (Keeps.of_grown hg)
          have hsz := hg.size
          have RBr2 := Lib.hid (BReads.more (B := wr.heap.size) (Reads.grown RBL.out hg W1L.out (own_base ORPr1.out)) (Nat.le_trans W1L.out hsz))
          have Br2 := Lib.hid (Br1.out.trans (KG.out.below Br1.out.size (fun i hi => Nat.le_trans W0L.out (own_base ORPr1.out i hi.symm))))
          clear hown hg hr1 hTM hsz Br1 RBr1 RMr1 ORPr1 RPr1 KG RBL
          go_wp2_with fail
          refine (decode_any R2.out hTMl).mono ?_
          rintro e wr3 h
          obtain ⟨rfl, hb⟩ := dec_no h (by rw [HTM.out, HT.out]; exact enc_prefix HM.out HMN.out)
          have RBr3 := Lib.hid ((RBr2.out.below hb).more hb.size)
          have Br3 := Lib.hid (Br2.out.trans (hb.mono Br2.out.size))
          clear hb Br2 RBr2
          have hb := Lib.hid ((Below.refl wr3.heap.size wr3).alloc (Nat.le_refl _) (.cells #[.int .i64 0, .int .i64 0, .int .i64 0, .string ⟨#[]⟩, .slice none 0 0, .bool false] 25))
          go_upto_region 20 with fail
          obtain ⟨wr4, hwr4⟩ : ∃ x, x = wr3.alloc (.cells #[.int .i64 0, .int .i64 0, .int .i64 0, .string ⟨#[]⟩, .slice none 0 0, .bool false] 25) := ⟨_, rfl⟩
          have HSZ4 := Lib.hid hwr4
          rw [← hwr4] at hb ⊢
          clear hwr4
          have RBr4 := Lib.hid ((RBr3.out.below hb.out).more hb.out.size)
          have Br4 := Lib.hid (Br3.out.trans (hb.out.mono Br3.out.size))
          clear hb Br3 RBr3
          go_wp2_with (at_builtin; refine Stop.of ?_)
          refine ⟨append_bytes (BOwns.nil _ _) (l := []) (m := b) (RBr4.out.src) (by simp; omega) (Nat.le_refl _) rfl rfl rfl rfl ?_⟩
          intro v' wr4t0 hown hg _
          obtain ⟨At, cr4t0, rfl, hcapr4t0, hr1⟩ := BOwns.slice hown
          have hb := below_of_nil hg
          have RTr4t0 := Lib.hid (show BReads wr4t0 wr4t0.heap.size At (b) from hr1)
          have ORTr4t0 := Lib.hid (show BOwns wr4t0 wr4.heap.size (.slice At (b).length cr4t0) (b) from hown)
          rw [show (([] : List UInt8) ++ (b)).length = (b).length from rfl]
          clear hown hg hr1 hcapr4t0
          have RBr4t0 := Lib.hid ((RBr4.out.below hb).more hb.size)
          have Br4t0 := Lib.hid (Br4.out.trans (hb.mono Br4.out.size))
          clear hb Br4 RBr4
          go_wp2_with fail
          refine (decode_any RTr4t0.out hlb).mono ?_
          rintro e wr4t1 h
          rcases h with ⟨y, hm, he, A9, c9, rfl, ho, hb⟩ | ⟨hno, rfl, hb⟩
          · obtain ⟨yk, ys, yn, ykey, yp, yd⟩ := y
            have hmb := En.may_bounds hm
            simp only at hmb
            have HM := Lib.hid hm
            have HE := Lib.hid he
            have R9 := Lib.hid (show BReads wr4t1 wr4t1.heap.size A9 yp from ho.reads)
            have hks : ykey.size ≤ 140737488355328 := by omega
            have hvs : yp.length ≤ 140737488355328 := by omega
            clear hm he ho hmb RTr4t0 ORTr4t0
            have RBr4t1 := Lib.hid ((RBr4t0.out.below hb).more hb.size)
            have Br4t1 := Lib.hid (Br4t0.out.trans (hb.mono Br4t0.out.size))
            clear hb Br4t0 RBr4t0
            unfold En.cells
            simp only
            have KZr4t2 := Lib.hid (Blk.new wr4t1 25 #[.int .i64 yk, .int .i64 ys, .int .i64 yn, .string ykey, .slice A9 yp.length c9, .bool yd])
            have hb := Lib.hid ((Below.refl wr4t1.heap.size wr4t1).alloc (Nat.le_refl _) (.cells #[.int .i64 yk, .int .i64 ys, .int .i64 yn, .string ykey, .slice A9 yp.length c9, .bool yd] 25))
            go_upto_region 21 with fail
            obtain ⟨wr4t2, hwr4t2⟩ : ∃ x, x = wr4t1.alloc (.cells #[.int .i64 yk, .int .i64 ys, .int .i64 yn, .string ykey, .slice A9 yp.length c9, .bool yd] 25) := ⟨_, rfl⟩
            obtain ⟨TZ, hTZ⟩ : ∃ x, x = wr4t1.heap.size := ⟨_, rfl⟩
            have HTZ := Lib.hid hTZ
            rw [← hwr4t2] at KZr4t2 hb ⊢
            rw [← hTZ] at KZr4t2 ⊢
            clear hwr4t2 hTZ
            have R10 := Lib.hid ((R9.out.below hb.out).more hb.out.size)
            have RBr4t2 := Lib.hid ((RBr4t1.out.below hb.out).more hb.out.size)
            have Br4t2 := Lib.hid (Br4t1.out.trans (hb.out.mono Br4t1.out.size))
            clear hb Br4t1 RBr4t1
            have q0 := KZr4t2.out.cell 0
            have q1 := KZr4t2.out.cell 1
            have q2 := KZr4t2.out.cell 2
            have q3 := KZr4t2.out.cell 3
            have q4 := KZr4t2.out.cell 4
            have q5 := KZr4t2.out.cell 5
            simp at q0 q1 q2 q3 q4 q5
            go_wp2_with fail
            refine (encode_any (A := A9) (c := c9) ⟨yk, ys, yn, ykey, yp, yd⟩ R10.out hks hvs).mono ?_
            rintro e wr4t3 h
            rcases h with ⟨_, v', rfl, ho, hb⟩ | ⟨hm, _⟩
            case inr => exact absurd HM.out hm
            rw [HE.out] at ho
            obtain ⟨A11, c11, rfl, _, hr11⟩ := BOwns.slice ho
            have k1 := conv_text hr11 c11
            have k2 := conv_text (RBr4t2.out.below hb) cb
            obtain ⟨tx, htx⟩ : ∃ t : ByteArray, t = ⟨b.toArray⟩ := ⟨_, rfl⟩
            obtain ⟨mm, hmm⟩ : ∃ m, m = b.length := ⟨_, rfl⟩
            rw [← hmm, ← htx] at k1 k2
            rw [← hmm]
            clear htx hmm ho hr11 q0 q1 q2 q3 q4 q5
            have Br4t3 := Lib.hid (Br4t2.out.trans (hb.mono Br4t2.out.size))
            clear hb Br4t2 
            go_wp2
            go_ret
            exact ⟨rfl, Br4t3.out⟩
          · clear hno RTr4t0 ORTr4t0
            have Br4t1 := Lib.hid (Br4t0.out.trans (hb.mono Br4t0.out.size))
            clear hb Br4t0 
            unfold En.cells
            simp only
            have KZr4t2 := Lib.hid (Blk.new wr4t1 25 #[.int .i64 0, .int .i64 0, .int .i64 0, .string ⟨#[]⟩, .slice none 0 0, .bool false])
            have hb := Lib.hid ((Below.refl wr4t1.heap.size wr4t1).alloc (Nat.le_refl _) (.cells #[.int .i64 0, .int .i64 0, .int .i64 0, .string ⟨#[]⟩, .slice none 0 0, .bool false] 25))
            go_upto_region 21 with fail
            obtain ⟨wr4t2, hwr4t2⟩ : ∃ x, x = wr4t1.alloc (.cells #[.int .i64 0, .int .i64 0, .int .i64 0, .string ⟨#[]⟩, .slice none 0 0, .bool false] 25) := ⟨_, rfl⟩
            obtain ⟨TZ, hTZ⟩ : ∃ x, x = wr4t1.heap.size := ⟨_, rfl⟩
            have HTZ := Lib.hid hTZ
            rw [← hwr4t2] at KZr4t2 hb ⊢
            rw [← hTZ] at KZr4t2 ⊢
            clear hwr4t2 hTZ
            have Br4t2 := Lib.hid (Br4t1.out.trans (hb.out.mono Br4t1.out.size))
            clear hb Br4t1 
            have q0 := KZr4t2.out.cell 0
            have q1 := KZr4t2.out.cell 1
            have q2 := KZr4t2.out.cell 2
            have q3 := KZr4t2.out.cell 3
            have q4 := KZr4t2.out.cell 4
            have q5 := KZr4t2.out.cell 5
            simp at q0 q1 q2 q3 q4 q5
            go_wp2_with fail
            refine (same_any (A := none) (A' := none) (c := 0) (c' := 0) En.zero Reads.none_ Reads.none_).mono ?_
            rintro e wr4t3 ⟨rfl, hb⟩
            have Br4t3 := Lib.hid (Br4t2.out.trans (hb.mono Br4t2.out.size))
            clear hb Br4t2 
            go_wp2
            go_ret
            exact ⟨rfl, Br4t3.out⟩
  · clear RC2
    have HNM := Lib.hid hm
    clear hm
    have K3 := Lib.hid (K2.out.below' hb)
    have RE3 := Lib.hid ((RE2.out.below hb).more hb.size)
    have RB3 := Lib.hid ((RB2.out.below hb).more hb.size)
    have RM3 := Lib.hid ((RM2.out.below hb).more hb.size)
    have B3 := Lib.hid (B2.out.trans (hb.mono B2.out.size))
    clear hb B2 K2 RE2 RB2 RM2
    go_upto_region 18 with fail
    have q0 := K3.out.cell 0
    have q1 := K3.out.cell 1
    have q2 := K3.out.cell 2
    have q3 := K3.out.cell 3
    have q4 := K3.out.cell 4
    have q5 := K3.out.cell 5
    simp at q0 q1 q2 q3 q4 q5
    go_wp2_with fail
    clear q0 q1 q2 q3 q4 q5
    refine (clone_any (c := ce) ⟨k, s, n, key, p, d⟩ RE3.out hle).mono ?_
    rintro e w4 ⟨A4, c4, he, ho, hb⟩
    obtain rfl : e = .returned (.agg #[.int .i64 k, .int .i64 s, .int .i64 n, .string key, .slice A4 p.length c4, .bool d]) := he
    clear ho
    have RB4 := Lib.hid ((RB3.out.below hb).more hb.size)
    have B4 := Lib.hid (B3.out.trans (hb.mono B3.out.size))
    clear hb B3 RB3
    go_wp2_with fail
    refine (check_any (A := A4) (c := c4) ⟨k, s, n, key, p, d⟩ hke hle).mono ?_
    rintro e w5 ⟨he, hb⟩
    rw [En.chk_no HNM.out] at he
    subst he
    clear K3 RE3 RM3
    have RB5 := Lib.hid ((RB4.out.below hb).more hb.size)
    have B5 := Lib.hid (B4.out.trans (hb.mono B4.out.size))
    clear hb B4 RB4
    go_upto_region 20 with fail
    go_wp2_with (at_builtin; refine Stop.of ?_)
    refine ⟨append_bytes (BOwns.nil _ _) (l := []) (m := b) (RB5.out.src) (by simp; omega) (Nat.le_refl _) rfl rfl rfl rfl ?_⟩
    intro v' w5t0 hown hg _
    obtain ⟨At, c5t0, rfl, hcap5t0, hr1⟩ := BOwns.slice hown
    have hb := below_of_nil hg
    have RT5t0 := Lib.hid (show BReads w5t0 w5t0.heap.size At (b) from hr1)
    have ORT5t0 := Lib.hid (show BOwns w5t0 w5.heap.size (.slice At (b).length c5t0) (b) from hown)
    rw [show (([] : List UInt8) ++ (b)).length = (b).length from rfl]
    clear hown hg hr1 hcap5t0
    have RB5t0 := Lib.hid ((RB5.out.below hb).more hb.size)
    have B5t0 := Lib.hid (B5.out.trans (hb.mono B5.out.size))
    clear hb B5 RB5
    go_wp2_with fail
    refine (decode_any RT5t0.out hlb).mono ?_
    rintro e w5t1 h
    rcases h with ⟨y, hm, he, A9, c9, rfl, ho, hb⟩ | ⟨hno, rfl, hb⟩
    · obtain ⟨yk, ys, yn, ykey, yp, yd⟩ := y
      have hmb := En.may_bounds hm
      simp only at hmb
      have HM := Lib.hid hm
      have HE := Lib.hid he
      have R9 := Lib.hid (show BReads w5t1 w5t1.heap.size A9 yp from ho.reads)
      have hks : ykey.size ≤ 140737488355328 := by omega
      have hvs : yp.length ≤ 140737488355328 := by omega
      clear hm he ho hmb RT5t0 ORT5t0
      have RB5t1 := Lib.hid ((RB5t0.out.below hb).more hb.size)
      have B5t1 := Lib.hid (B5t0.out.trans (hb.mono B5t0.out.size))
      clear hb B5t0 RB5t0
      unfold En.cells
      simp only
      have KZ5t2 := Lib.hid (Blk.new w5t1 25 #[.int .i64 yk, .int .i64 ys, .int .i64 yn, .string ykey, .slice A9 yp.length c9, .bool yd])
      have hb := Lib.hid ((Below.refl w5t1.heap.size w5t1).alloc (Nat.le_refl _) (.cells #[.int .i64 yk, .int .i64 ys, .int .i64 yn, .string ykey, .slice A9 yp.length c9, .bool yd] 25))
      go_upto_region 21 with fail
      obtain ⟨w5t2, hw5t2⟩ : ∃ x, x = w5t1.alloc (.cells #[.int .i64 yk, .int .i64 ys, .int .i64 yn, .string ykey, .slice A9 yp.length c9, .bool yd] 25) := ⟨_, rfl⟩
      obtain ⟨TZ, hTZ⟩ : ∃ x, x = w5t1.heap.size := ⟨_, rfl⟩
      have HTZ := Lib.hid hTZ
      rw [← hw5t2] at KZ5t2 hb ⊢
      rw [← hTZ] at KZ5t2 ⊢
      clear hw5t2 hTZ
      have R10 := Lib.hid ((R9.out.below hb.out).more hb.out.size)
      have RB5t2 := Lib.hid ((RB5t1.out.below hb.out).more hb.out.size)
      have B5t2 := Lib.hid (B5t1.out.trans (hb.out.mono B5t1.out.size))
      clear hb B5t1 RB5t1
      have q0 := KZ5t2.out.cell 0
      have q1 := KZ5t2.out.cell 1
      have q2 := KZ5t2.out.cell 2
      have q3 := KZ5t2.out.cell 3
      have q4 := KZ5t2.out.cell 4
      have q5 := KZ5t2.out.cell 5
      simp at q0 q1 q2 q3 q4 q5
      go_wp2_with fail
      refine (encode_any (A := A9) (c := c9) ⟨yk, ys, yn, ykey, yp, yd⟩ R10.out hks hvs).mono ?_
      rintro e w5t3 h
      rcases h with ⟨_, v', rfl, ho, hb⟩ | ⟨hm, _⟩
      case inr => exact absurd HM.out hm
      rw [HE.out] at ho
      obtain ⟨A11, c11, rfl, _, hr11⟩ := BOwns.slice ho
      have k1 := conv_text hr11 c11
      have k2 := conv_text (RB5t2.out.below hb) cb
      obtain ⟨tx, htx⟩ : ∃ t : ByteArray, t = ⟨b.toArray⟩ := ⟨_, rfl⟩
      obtain ⟨mm, hmm⟩ : ∃ m, m = b.length := ⟨_, rfl⟩
      rw [← hmm, ← htx] at k1 k2
      rw [← hmm]
      clear htx hmm ho hr11 q0 q1 q2 q3 q4 q5
      have B5t3 := Lib.hid (B5t2.out.trans (hb.mono B5t2.out.size))
      clear hb B5t2 
      go_wp2
      go_ret
      exact ⟨rfl, B5t3.out⟩
    · clear hno RT5t0 ORT5t0
      have B5t1 := Lib.hid (B5t0.out.trans (hb.mono B5t0.out.size))
      clear hb B5t0 
      unfold En.cells
      simp only
      have KZ5t2 := Lib.hid (Blk.new w5t1 25 #[.int .i64 0, .int .i64 0, .int .i64 0, .string ⟨#[]⟩, .slice none 0 0, .bool false])
      have hb := Lib.hid ((Below.refl w5t1.heap.size w5t1).alloc (Nat.le_refl _) (.cells #[.int .i64 0, .int .i64 0, .int .i64 0, .string ⟨#[]⟩, .slice none 0 0, .bool false] 25))
      go_upto_region 21 with fail
      obtain ⟨w5t2, hw5t2⟩ : ∃ x, x = w5t1.alloc (.cells #[.int .i64 0, .int .i64 0, .int .i64 0, .string ⟨#[]⟩, .slice none 0 0, .bool false] 25) := ⟨_, rfl⟩
      obtain ⟨TZ, hTZ⟩ : ∃ x, x = w5t1.heap.size := ⟨_, rfl⟩
      have HTZ := Lib.hid hTZ
      rw [← hw5t2] at KZ5t2 hb ⊢
      rw [← hTZ] at KZ5t2 ⊢
      clear hw5t2 hTZ
      have B5t2 := Lib.hid (B5t1.out.trans (hb.out.mono B5t1.out.size))
      clear hb B5t1 
      have q0 := KZ5t2.out.cell 0
      have q1 := KZ5t2.out.cell 1
      have q2 := KZ5t2.out.cell 2
      have q3 := KZ5t2.out.cell 3
      have q4 := KZ5t2.out.cell 4
      have q5 := KZ5t2.out.cell 5
      simp at q0 q1 q2 q3 q4 q5
      go_wp2_with fail
      refine (same_any (A := none) (A' := none) (c := 0) (c' := 0) En.zero Reads.none_ Reads.none_).mono ?_
      rintro e w5t3 ⟨rfl, hb⟩
      have B5t3 := Lib.hid (B5t2.out.trans (hb.mono B5t2.out.size))
      clear hb B5t2 
      go_wp2
      go_ret
      exact ⟨rfl, B5t3.out⟩
end Go.Proofs.Ytnnladfndmdapaa
