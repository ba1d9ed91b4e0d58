/- CodecOwn: the walk. -/
import Derived.Test.YtoeccclaaogihaaRooms
import Derived.Test.YtoeccclaaogihaaPlainT
import Derived.Test.YtoeccclaaogihaaRef1
import Derived.Test.YtoeccclaaogihaaFixed
namespace Go.Proofs.Ytoeccclaaogihaa
open Go.RowKit

theorem reads_take {w : World} {B k : Nat} {A : Option Addr} {l : List UInt8} (h : BReads w B A l) : BReads w B A (l.take k) := by
  refine ⟨by rw [bys_length, Nat.mul_one], fun hp => ?_⟩
  rw [List.length_take] at hp
  obtain ⟨b, off, e, hb, hc⟩ := h.2 (by omega)
  refine ⟨b, off, e, hb, fun j u hu => hc j u ?_⟩
  have hj : j < (l.take k).length := by have := (List.getElem?_eq_some_iff.1 hu).1; rwa [bys_length] at this
  rw [← hu, bys_get, bys_get, List.getElem?_take, if_pos (by rw [List.length_take] at hj; omega)]
theorem BOwns.keepsLt {S : Nat → Prop} {w w' : World} {base : Nat} {v : Value} {l : List UInt8} (h : BOwns w base v l) (hk : Keeps S w w') (hs : ∀ i, base ≤ i → i < w.heap.size → ¬ S i) : BOwns w' base v l :=
  h.keepsB hk (fun k e => hs k (h.lt e).1 (h.lt e).2)
/-- A new reader: blocks ahead of it and behind it may be written. -/
theorem openX_any {w : World} {B c : Nat} {A : Option Addr} {l : List UInt8} (hr : BReads w B A l) (hl : l.length ≤ 140737488355328) :
    Calls Try.prog 38 #[.slice A l.length c] w fun e w' => ∃ g, e = .returned (.pointer (some ⟨g, 0, none⟩)) ∧ w.heap.size ≤ g ∧ g < w'.heap.size ∧
      Hid (∀ w'', Keeps (fun k => k < w.heap.size ∨ g < k) w' w'' → RdIs w'' g ⟨l, 0, 0⟩) ∧ Below w.heap.size w w' := by
  go_enter Try.func38, Try.ntmps38
  go_wp2_with fail
  refine (own_any hr hl).mono ?_
  rintro e w1 h
  obtain ⟨L, A1, c1, rfl, E1, O1, R1, B1⟩ := h.named
  have hc : L.length ≤ c1 := by obtain ⟨A', c', e, hc, _⟩ := O1.out.slice; injection e with _ _ e; omega
  have HC := Lib.hid hc
  clear h hc
  go_wp2
  go_ret
  refine ⟨w1.heap.size, rfl, B1.out.size, by simp, Lib.hid fun w'' hk => ⟨A1, c1, ?_⟩, B1.out.alloc B1.out.size _⟩
  rw [← E1.out]
  have O2 : BOwns w'' w.heap.size (.slice A1 L.length c1) L := (O1.out.below ((Below.refl _ _).alloc (Nat.le_refl _) _)).keepsB hk (fun k e h => by have := O1.out.lt e; omega)
  exact ⟨(Blk.new _ _ _).keeps hk (fun h => by have := B1.out.size; omega), O1.out.lies O2, HC.out, Nat.zero_le _, by rw [E1.out]; exact hl, O2.ours⟩

/-- What lies in memory while the bytes that a reader answered are written: the bytes that the readers were opened over, two answers, the other reader. -/
structure OwnSt (w0 wr : World) (ka g2 B5 N : Nat) (va : Value) (la : List UInt8) (v1 : Value) (l1 : List UInt8) (v2 : Value) (l2 : List UInt8) (LB : List UInt8) : Prop where
  bel : Below w0.heap.size w0 wr
  all : BOwns wr w0.heap.size va la
  one : BOwns wr N v1 l1
  two : BOwns wr N v2 l2
  ne : ∀ k, v1.ownBlock = some k → v2.ownBlock ≠ some k
  rs : ∀ w'', Keeps (fun k => k < B5 ∨ g2 < k) wr w'' → RdIs w'' g2 ⟨LB, 0, 0⟩
  blk : va.ownBlock = some ka
  o1 : ka < B5
  o2 : B5 ≤ g2
  o3 : g2 < N
  o4 : w0.heap.size ≤ N
  o5 : N ≤ wr.heap.size
section
variable {w0 wr w' : World} {ka g2 B5 N : Nat} {va : Value} {la : List UInt8} {v1 : Value} {l1 : List UInt8} {v2 : Value} {l2 : List UInt8} {LB : List UInt8}
theorem OwnSt.swap (h : OwnSt w0 wr ka g2 B5 N va la v1 l1 v2 l2 LB) : OwnSt w0 wr ka g2 B5 N va la v2 l2 v1 l1 LB :=
  ⟨h.bel, h.all, h.two, h.one, fun k e1 e2 => h.ne k e2 e1, h.rs, h.blk, h.o1, h.o2, h.o3, h.o4, h.o5⟩
theorem OwnSt.go (h : OwnSt w0 wr ka g2 B5 N va la v1 l1 v2 l2 LB) (hb : Below wr.heap.size wr w') : OwnSt w0 w' ka g2 B5 N va la v1 l1 v2 l2 LB :=
  ⟨h.bel.trans (hb.mono h.bel.size), h.all.below hb, h.one.below hb, h.two.below hb, h.ne, fun w'' hk => h.rs w'' ((Keeps.of_below hb _).trans hk (fun i hi => .inl hi)), h.blk, h.o1, h.o2, h.o3, h.o4, Nat.le_trans h.o5 hb.size⟩
theorem OwnSt.turn {v1' : Value} {l1' : List UInt8} (h : OwnSt w0 wr ka g2 B5 N va la v1 l1 v2 l2 LB) (ho : BOwns w' N v1' l1') (hk : Keeps (fun k => some k = v1.ownBlock) wr w') (hne : ∀ k, v1'.ownBlock = some k → v2.ownBlock ≠ some k) : OwnSt w0 w' ka g2 B5 N va la v1' l1' v2 l2 LB := by
  have hN : ∀ k, some k = v1.ownBlock → N ≤ k := fun k e => (h.one.lt e.symm).1
  refine ⟨h.bel.trans (hk.below h.bel.size (fun i hi => Nat.le_trans h.o4 (hN i hi))), h.all.keepsB hk (fun k e e' => ?_), ho, h.two.keepsB hk (fun k e e' => h.ne k e'.symm e), hne, fun w'' hk2 => h.rs w'' ?_, h.blk, h.o1, h.o2, h.o3, h.o4, Nat.le_trans h.o5 hk.size⟩
  · rw [h.blk] at e; injection e with e; have := hN k e'; have := h.o1; have := h.o2; have := h.o3; omega
  · exact (hk.mono (S' := fun k => k < B5 ∨ g2 < k) (fun i hi => .inl (.inr (by have := hN i hi; have := h.o3; omega)))).trans hk2 (fun i hi => .inl hi)
theorem OwnSt.fill {l1' : List UInt8} (h : OwnSt w0 wr ka g2 B5 N va la v1 l1 v2 l2 LB) (ho : BOwns w' N v1 l1') (hk : Keeps (fun k => some k = v1.ownBlock) wr w') : OwnSt w0 w' ka g2 B5 N va la v1 l1' v2 l2 LB := h.turn ho hk h.ne
theorem OwnSt.grow {v1' : Value} {l1' : List UInt8} (h : OwnSt w0 wr ka g2 B5 N va la v1 l1 v2 l2 LB) (hg : Grows wr w' N v1.ownBlock v1' l1') : OwnSt w0 w' ka g2 B5 N va la v1' l1' v2 l2 LB :=
  h.turn hg.own hg.keeps (fun k e e2 => hg.far (h.two.lt e2).2 (fun e3 => h.ne k e3 e2) e)
end
set_option maxRecDepth 100000 in
set_option maxHeartbeats 3200000 in
theorem codecOwn_walk {w : World} {A A' : Option Addr} {c c' : Nat} {p q : List UInt8} (hp : BReads w w.heap.size A p) (hq : BReads w w.heap.size A' q) (hl : p.length + q.length ≤ 1048576) :
    Calls Try.prog 17 #[.slice A p.length c, .slice A' q.length c'] w fun e w' => e = .returned (.bool true) ∧ Below w.heap.size w w' := by
  have HP := Lib.hid hp
  have HQ := Lib.hid hq
  clear hp hq
  go_enter Try.func17, Try.ntmps17
  go_wp2_with fail
  refine (refPutBytes_any (A := none) (c := 0) (B := 0) (l := []) Reads.none_ (Nat.zero_le _) HP.out (Nat.le_refl _) (by simp only [List.length_nil]; omega)).mono ?_
  rintro e w1 h
  obtain ⟨L1, A1, c1, rfl, E1, _, R1, B1⟩ := h.named
  have hi1 := intF_length (n := (p.length : Int)) (by omega) (by omega)
  have hL1 : L1.length ≤ 1048600 := by rw [E1.out]; simp only [List.length_append, List.length_nil]; omega
  clear h hi1
  go_wp2_with fail
  refine (refPutBytes_any R1.out (Nat.le_refl _) (HQ.out.below B1.out) B1.out.size (by omega)).mono ?_
  rintro e w2 h
  obtain ⟨LB, A2, c2, rfl, E2, _, R2, B2'⟩ := h.named
  have B2 := hid_below B1 B2'
  have hi2 := intF_length (n := (q.length : Int)) (by omega) (by omega)
  have hLB : LB.length ≤ 2097300 := by rw [E2.out]; simp only [List.length_append]; omega
  have ELB := Lib.hid (show LB = (intF p.length ++ p) ++ (intF q.length ++ q) from by rw [E2.out, E1.out]; simp)
  clear h hi2 R1 E1 E2 B1 B2'
  go_wp2_with fail
  refine (roomy_any R2.out (by omega)).mono ?_
  rintro e w3 h
  obtain ⟨va, rfl, ho, hb⟩ := h.out
  obtain ⟨LA, hLA⟩ : ∃ LA, LA = LB ++ List.replicate 80 165 := ⟨_, rfl⟩
  rw [← hLA] at ho
  obtain ⟨A3, c3, rfl, hc3, hr3⟩ := ho.slice
  have hLAl : LA.length = LB.length + 80 := by rw [hLA, List.length_append, List.length_replicate]
  obtain ⟨ka, rfl, hka, hkalt, _, _⟩ := ho.block (by omega)
  have hLA1 : LB.length + 80 ≤ LA.length := by omega
  have hLA2 : LA.length ≤ LB.length + 80 := by omega
  clear hLAl
  have HLA := Lib.hid hLA
  have R2b := Lib.hid (R2.out.below hb)
  have R3 := Lib.hid hr3
  have O3 := Lib.hid (owns_less ho B2.out.size)
  have B3 := Lib.hid (B2.out.trans (hb.mono B2.out.size))
  have hw2 := B2.out.size
  have hw3 := hb.size
  have hlb3 : LB.length ≤ c3 := by omega
  clear h ho hb hr3 hLA R2 B2
  go_wp2_with fail
  have hT := Lib.hid (show BReads w3 w3.heap.size (some ⟨ka, 0, none⟩) LB from by have := reads_take (k := LB.length) R3.out; rw [HLA.out, List.take_left] at this; exact this)
  refine (openX_any hT.out (by omega)).mono ?_
  rintro e w4 ⟨g1, rfl, hg1, hg1l, RR, hb⟩
  have O4 := Lib.hid (O3.out.below hb)
  have T4 := Lib.hid ((hT.out.below hb).more hb.size)
  have R4 := Lib.hid (R3.out.below hb)
  have Q4 := Lib.hid (R2b.out.below (hb.mono hw3))
  have B4 := Lib.hid (B3.out.trans (hb.mono B3.out.size))
  have hw4 := hb.size
  clear hb B3 O3 hT R3 R2b
  go_wp2_with fail
  refine (openX_any T4.out (by omega)).mono ?_
  rintro e w5 ⟨g2, rfl, hg2, hg2l, RS, hb⟩
  have RR5 := Lib.hid (show ∀ w'', Keeps (fun k => k < w3.heap.size ∨ g1 < k) w5 w'' → RdIs w'' g1 ⟨LB, 0, 0⟩ from fun w'' hk => RR.out w'' ((Keeps.of_below hb _).trans hk (fun i hi => .inl hi)))
  have O5 := Lib.hid (O4.out.below hb)
  have R5 := Lib.hid (R4.out.below (hb.mono hw4))
  have Q5 := Lib.hid (Q4.out.below (hb.mono (by omega)))
  have B5 := Lib.hid (B4.out.trans (hb.mono B4.out.size))
  have hw5 := hb.size
  clear hb B4 O4 T4 R4 RR Q4
  go_wp2_with fail
  refine (whole_any R5.out (by omega) (Q5.out.more (by omega)) (by omega) HLA.out).mono ?_
  rintro e w6 ⟨rfl, hb⟩
  have RR6 := Lib.hid (show ∀ w'', Keeps (fun k => k < w3.heap.size ∨ g1 < k) w6 w'' → RdIs w'' g1 ⟨LB, 0, 0⟩ from fun w'' hk => RR5.out w'' ((Keeps.of_below hb _).trans hk (fun i hi => .inl hi)))
  have RS6 := Lib.hid (show ∀ w'', Keeps (fun k => k < w4.heap.size ∨ g2 < k) w6 w'' → RdIs w'' g2 ⟨LB, 0, 0⟩ from fun w'' hk => RS.out w'' ((Keeps.of_below hb _).trans hk (fun i hi => .inl hi)))
  have O6 := Lib.hid (O5.out.below hb)
  have B6 := Lib.hid (B5.out.trans (hb.mono B5.out.size))
  have hw6 := hb.size
  clear hb B5 O5 R5 RR5 RS Q5
  go_wp2
  go_loopw [35] (fun i wr => ∃ I : Nat, i = .int .i64 I ∧ I ≤ LA.length ∧ Hid (BOwns wr w.heap.size (.slice (some ⟨ka, 0, none⟩) LA.length c3) (fillL 7 I LA)) ∧ Hid (Keeps (fun k => some k = (Value.slice (some ⟨ka, 0, none⟩) LA.length c3).ownBlock) w6 wr)) (fun i _ => LA.length - (intOf i).toNat)
  case atStart => exact ⟨0, rfl, by omega, O6, Lib.hid (Keeps.refl _ _)⟩
  case round =>
    obtain ⟨I, rfl, hI, hO, hK⟩ := hrel
    by_cases hlt : (I : Int) < LA.length
    · obtain ⟨gx, ux, hAx, f1, c1, HO, HK⟩ := fill_step (m := 7) hO.out (by omega) (by decide) hK.out
      obtain rfl : ka = gx := by injection hAx with e; injection e
      clear hO hK
      go_wp2
      exact ⟨⟨I + 1, by go_num, by omega, HO, HK⟩, by simp [intOf]; omega⟩
    · obtain rfl : I = LA.length := by omega
      have hO7 := hO.out
      rw [fillL_full] at hO7
      obtain ⟨w7, hw7⟩ : ∃ w7, w7 = wr := ⟨_, rfl⟩
      rw [← hw7] at hO7 hK ⊢
      have O7 := Lib.hid hO7
      have hbw : Below w.heap.size w6 w7 := hK.out.below (by omega) (fun i hi => by have hi : i = ka := Option.some.inj hi; omega)
      have B7 := Lib.hid (B6.out.trans hbw)
      have R7 := Lib.hid (show RdIs w7 g1 ⟨LB, 0, 0⟩ from RR6.out _ (hK.out.mono (fun i hi => .inl (.inl (by have hi : i = ka := Option.some.inj hi; omega)))))
      have RS7 := Lib.hid (show ∀ w'', Keeps (fun k => k < w4.heap.size ∨ g2 < k) w7 w'' → RdIs w'' g2 ⟨LB, 0, 0⟩ from fun w'' hk => RS6.out w'' ((hK.out.mono (S' := fun k => k < w4.heap.size ∨ g2 < k) (fun i hi => .inl (.inl (by have hi : i = ka := Option.some.inj hi; omega)))).trans hk (fun i hi => .inl hi)))
      have hw7s : w6.heap.size ≤ w7.heap.size := hK.out.size
      clear hO7 hO hK hw7 hbw RS6 RR6 O6 B6 hI hlt
      go_wp2_with fail
      have e1 : Rd.bytes ⟨LB, 0, 0⟩ p.length = (p, ⟨LB, (intF p.length ++ p).length, 0⟩) := by
        have h0 := blockF_there p (intF q.length ++ q) (by omega)
        have h1 : LB.drop 0 = intF p.length ++ p ++ (intF q.length ++ q) := ELB.out
        simp only [Rd.bytes, Rd.step, h1, h0, if_true, Nat.zero_add]
      have hx := rdBytes_any R7.out p.length
      rw [e1] at hx
      refine hx.mono ?_
      rintro e w8 ⟨⟨v1, rfl, ho⟩, hr, hk⟩
      simp only at ho hr
      have O8 := Lib.hid ho
      have R8 := Lib.hid hr
      have B8 := Lib.hid (B7.out.trans (hk.belowAt B7.out.size (by omega)))
      have A8 := Lib.hid (O7.out.keepsB hk (fun k e => by have e : ka = k := Option.some.inj e; omega))
      have RS8 := Lib.hid (show ∀ w'', Keeps (fun k => k < w4.heap.size ∨ g2 < k) w8 w'' → RdIs w'' g2 ⟨LB, 0, 0⟩ from fun w'' hk2 => RS7.out w'' ((hk.mono (S' := fun k => k < w4.heap.size ∨ g2 < k) (fun i hi => .inl (.inl (by omega)))).trans hk2 (fun i hi => .inl hi)))
      have hw8 := hk.size
      clear ho hr hk hx e1 B7 O7 R7 RS7
      go_wp2_with fail
      have e1 : Rd.bytes ⟨LB, (intF p.length ++ p).length, 0⟩ q.length = (q, ⟨LB, (intF p.length ++ p).length + (intF q.length ++ q).length, 0⟩) := by
        have h0 := blockF_there q [] (by omega)
        have h1 : LB.drop (intF p.length ++ p).length = intF q.length ++ q ++ [] := by rw [ELB.out, List.drop_left, List.append_nil]
        simp only [Rd.bytes, Rd.step, h1, h0, if_true]
      have hx := rdBytes_any R8.out q.length
      rw [e1] at hx
      refine hx.mono ?_
      rintro e w9 ⟨⟨v2, rfl, ho⟩, hr, hk⟩
      simp only at ho hr
      obtain ⟨A21, c21, rfl, _, _⟩ := O8.out.slice
      obtain ⟨A22, c22, rfl, _, _⟩ := ho.slice
      have H9 := Lib.hid (show OwnSt w w9 ka g2 w4.heap.size w7.heap.size (.slice (some ⟨ka, 0, none⟩) LA.length c3) (List.replicate LA.length 7) (.slice A21 p.length c21) p (.slice A22 q.length c22) q LB from
        ⟨B8.out.trans (hk.belowAt B8.out.size (by omega)), A8.out.keepsB hk (fun k e => by have e : ka = k := Option.some.inj e; omega), O8.out.keepsB hk (fun k e => by have := (O8.out.lt e).1; omega), owns_less ho hw8,
          fun k e e2 => by have := (O8.out.lt e).2; have := (ho.lt e2).1; omega,
          fun w'' hk2 => RS8.out w'' ((hk.mono (S' := fun k => k < w4.heap.size ∨ g2 < k) (fun i hi => .inl (.inl (by omega)))).trans hk2 (fun i hi => .inl hi)), rfl, by omega, by omega, by omega, by omega, by have := hk.size; omega⟩)
      clear ho hr hk hx e1 B8 O8 R8 A8 RS8
      obtain ⟨N, hN⟩ : ∃ N, N = w7.heap.size := ⟨_, rfl⟩
      obtain ⟨N5, hN5⟩ : ∃ N, N = w4.heap.size := ⟨_, rfl⟩
      rw [← hN, ← hN5] at H9
      clear hN hN5 hw8 hw7s hw2 hw3 hw4 hw5 hw6 hg1 hg1l hg2 hg2l hka hkalt hlb3
      go_wp2_with fail
      have hr1 := H9.out.one.reads
      refine (equal_any hr1 (HP.out.below H9.out.bel) (by omega)).mono ?_
      clear hr1
      rintro e w10 ⟨rfl, k, hk⟩
      rw [show decide (p = p) = true from by simp]
      have H10 := Lib.hid (show OwnSt w w10 ka g2 N5 N (.slice (some ⟨ka, 0, none⟩) LA.length c3) (List.replicate LA.length 7) (.slice A21 p.length c21) p (.slice A22 q.length c22) q LB from by rw [hk]; exact H9.out.go (below_drewN (Below.refl _ _) k))
      clear hk H9
      go_wp2_with fail
      have hr1 := H10.out.two.reads
      refine (equal_any hr1 (HQ.out.below H10.out.bel) (by omega)).mono ?_
      clear hr1
      rintro e w11 ⟨rfl, k, hk⟩
      rw [show decide (q = q) = true from by simp]
      have H11 := Lib.hid (show OwnSt w w11 ka g2 N5 N (.slice (some ⟨ka, 0, none⟩) LA.length c3) (List.replicate LA.length 7) (.slice A21 p.length c21) p (.slice A22 q.length c22) q LB from by rw [hk]; exact H10.out.go (below_drewN (Below.refl _ _) k))
      clear hk H10
      go_wp2
      go_loopw [62] (fun i wr => ∃ I : Nat, i = .int .i64 I ∧ I ≤ p.length ∧ Hid (BOwns wr N (.slice A21 p.length c21) (fillL 1 I p)) ∧ Hid (Keeps (fun k => some k = (Value.slice A21 p.length c21).ownBlock) w11 wr)) (fun i _ => p.length - (intOf i).toNat)
      case atStart => exact ⟨0, rfl, by omega, Lib.hid H11.out.one, Lib.hid (Keeps.refl _ _)⟩
      case round =>
        obtain ⟨I, rfl, hI, hO, hK⟩ := hrel
        by_cases hlt : (I : Int) < p.length
        · obtain ⟨gx, ux, hAx, f1, c1, HO, HK⟩ := fill_step (m := 1) hO.out (by omega) (by decide) hK.out
          subst hAx
          clear hO hK
          go_wp2
          exact ⟨⟨I + 1, by go_num, by omega, HO, HK⟩, by simp [intOf]; omega⟩
        · obtain rfl : I = p.length := by omega
          have hO7 := hO.out
          rw [fillL_full] at hO7
          obtain ⟨w12, hw12⟩ : ∃ w12, w12 = wr := ⟨_, rfl⟩
          rw [← hw12] at hO7 hK ⊢
          have H12 := Lib.hid (H11.out.fill hO7 hK.out)
          clear hO7 hO hK hw12 H11 hI hlt
          go_wp2
          go_loopw [71] (fun i wr => ∃ I : Nat, i = .int .i64 I ∧ I ≤ q.length ∧ Hid (BOwns wr N (.slice A22 q.length c22) (fillL 2 I q)) ∧ Hid (Keeps (fun k => some k = (Value.slice A22 q.length c22).ownBlock) w12 wr)) (fun i _ => q.length - (intOf i).toNat)
          case atStart => exact ⟨0, rfl, by omega, Lib.hid H12.out.two, Lib.hid (Keeps.refl _ _)⟩
          case round =>
            obtain ⟨I, rfl, hI, hO, hK⟩ := hrel
            by_cases hlt : (I : Int) < q.length
            · obtain ⟨gx, ux, hAx, f1, c1, HO, HK⟩ := fill_step (m := 2) hO.out (by omega) (by decide) hK.out
              subst hAx
              clear hO hK
              go_wp2
              exact ⟨⟨I + 1, by go_num, by omega, HO, HK⟩, by simp [intOf]; omega⟩
            · obtain rfl : I = q.length := by omega
              have hO7 := hO.out
              rw [fillL_full] at hO7
              obtain ⟨w13, hw13⟩ : ∃ w13, w13 = wr := ⟨_, rfl⟩
              rw [← hw13] at hO7 hK ⊢
              have H13 := Lib.hid (H12.out.swap.fill hO7 hK.out).swap
              clear hO7 hO hK hw13 H12 hI hlt
              go_wp2
              go_loopw [11, 78] (fun v i wr => ∃ K : Nat, i = .int .i64 K ∧ K ≤ 70 ∧ Hid (Grows w13 wr N (Value.slice A21 p.length c21).ownBlock v (List.replicate p.length 1 ++ List.replicate K 3))) (fun _ i _ => 70 - (intOf i).toNat)
              case atStart => exact ⟨0, rfl, by omega, Lib.hid (Grows.start (by simpa using H13.out.one) H13.out.o5)⟩
              case round =>
                obtain ⟨K, rfl, hK, hG⟩ := hrel
                by_cases hlt : (K : Int) < 70
                · go_wp2_with (at_builtin; refine Stop.of ?_)
                  refine ⟨append_bytes (m := [3]) (hG.out.own.alloc _) (byte_src wr 3 (by decide)) (by rw [List.length_append, List.length_replicate, List.length_replicate]; simp only [List.length_cons, List.length_nil]; omega) (by have := hG.out.le; have := hG.out.grown.size; simp; omega) rfl rfl rfl rfl ?_⟩
                  intro v2 w2 ho hg hf
                  have hG2 := hG.out.step ho hg hf
                  rw [rep_snoc] at hG2
                  have HG := Lib.hid hG2
                  clear ho hg hf hG2 hG
                  go_wp2
                  exact ⟨⟨K + 1, by go_num, by omega, HG⟩, by simp [intOf]; omega⟩
                · have hK7 : K = 70 := by omega
                  obtain ⟨w14, hw14⟩ : ∃ w14, w14 = wr := ⟨_, rfl⟩
                  rw [← hw14] at hG ⊢
                  have hG2 := hG.out
                  rw [hK7] at hG2
                  have H14 := Lib.hid (H13.out.grow hG2)
                  clear hG hG2 hK7 hw14 H13
                  go_wp2
                  go_loopw [12, 84] (fun v i wr => ∃ K : Nat, i = .int .i64 K ∧ K ≤ 70 ∧ Hid (Grows w14 wr N (Value.slice A22 q.length c22).ownBlock v (List.replicate q.length 2 ++ List.replicate K 4))) (fun _ i _ => 70 - (intOf i).toNat)
                  case atStart => exact ⟨0, rfl, by omega, Lib.hid (Grows.start (by simpa using H14.out.two) H14.out.o5)⟩
                  case round =>
                    obtain ⟨K, rfl, hK, hG⟩ := hrel
                    by_cases hlt : (K : Int) < 70
                    · go_wp2_with (at_builtin; refine Stop.of ?_)
                      refine ⟨append_bytes (m := [4]) (hG.out.own.alloc _) (byte_src wr 4 (by decide)) (by rw [List.length_append, List.length_replicate, List.length_replicate]; simp only [List.length_cons, List.length_nil]; omega) (by have := hG.out.le; have := hG.out.grown.size; simp; omega) rfl rfl rfl rfl ?_⟩
                      intro v2 w2 ho hg hf
                      have hG2 := hG.out.step ho hg hf
                      rw [rep_snoc] at hG2
                      have HG := Lib.hid hG2
                      clear ho hg hf hG2 hG
                      go_wp2
                      exact ⟨⟨K + 1, by go_num, by omega, HG⟩, by simp [intOf]; omega⟩
                    · have hK7 : K = 70 := by omega
                      obtain ⟨w15, hw15⟩ : ∃ w15, w15 = wr := ⟨_, rfl⟩
                      rw [← hw15] at hG ⊢
                      have hG2 := hG.out
                      rw [hK7] at hG2
                      have h15 := (H14.out.swap.grow hG2).swap
                      obtain ⟨l1, hl1⟩ : ∃ l1 : List UInt8, l1 = List.replicate p.length 1 ++ List.replicate 70 3 := ⟨_, rfl⟩
                      obtain ⟨l2, hl2⟩ : ∃ l2 : List UInt8, l2 = List.replicate q.length 2 ++ List.replicate 70 4 := ⟨_, rfl⟩
                      rw [← hl1, ← hl2] at h15
                      have M1 := Lib.hid (show Marks l1 p.length 1 3 from by rw [hl1]; exact marks_rep _ _ _ _)
                      have M2 := Lib.hid (show Marks l2 q.length 2 4 from by rw [hl2]; exact marks_rep _ _ _ _)
                      have hl1l : l1.length ≤ 1048700 := by rw [hl1]; simp only [List.length_append, List.length_replicate]; omega
                      have hl2l : l2.length ≤ 1048700 := by rw [hl2]; simp only [List.length_append, List.length_replicate]; omega
                      obtain ⟨A31, c31, rfl, _, _⟩ := h15.one.slice
                      obtain ⟨A32, c32, rfl, _, _⟩ := h15.two.slice
                      have H15 := Lib.hid h15
                      clear hG hG2 hK7 hw15 H14 h15 hl1 hl2
                      go_wp2_with fail
                      have hr1 := H15.out.one.reads
                      refine (marked_any 1 3 (by decide) (by decide) hr1 (by omega) M1.out).mono ?_
                      rintro e w' ⟨rfl, rfl⟩
                      clear hr1
                      go_wp2_with fail
                      have hr1 := H15.out.two.reads
                      refine (marked_any 2 4 (by decide) (by decide) hr1 (by omega) M2.out).mono ?_
                      rintro e w' ⟨rfl, rfl⟩
                      clear hr1
                      go_wp2_with fail
                      obtain ⟨L7, hL7⟩ : ∃ L7, L7 = List.replicate LA.length (7 : UInt8) := ⟨_, rfl⟩
                      have hL7l : LA.length = L7.length := by rw [hL7, List.length_replicate]
                      have M7 : Marks L7 LA.length 7 7 := by rw [hL7]; have := marks_rep LA.length 0 7 7; rwa [List.replicate_zero, List.append_nil] at this
                      have hr1 := H15.out.all.reads
                      rw [← hL7] at hr1
                      have hmk := marked_any (c := c3) (o1 := 7) (o2 := 7) 7 7 (by decide) (by decide) hr1 (by omega) M7
                      rw [← hL7l] at hmk
                      refine hmk.mono ?_
                      rintro e w' ⟨rfl, rfl⟩
                      clear hr1 hmk M7 hL7l hL7
                      go_wp2_with fail
                      have R15 : RdIs w' g2 ⟨LB, 0, 0⟩ := H15.out.rs _ (Keeps.refl _ _)
                      have B15 := Lib.hid H15.out.bel
                      have hg2w : w.heap.size ≤ g2 := by have := (H15.out.all.lt H15.out.blk).1; have := H15.out.o1; have := H15.out.o2; omega
                      have hx := rdBytes_any R15 p.length
                      have e1 : Rd.bytes ⟨LB, 0, 0⟩ p.length = (p, ⟨LB, (intF p.length ++ p).length, 0⟩) := by
                        have h0 := blockF_there p (intF q.length ++ q) (by omega)
                        have h1 : LB.drop 0 = intF p.length ++ p ++ (intF q.length ++ q) := ELB.out
                        simp only [Rd.bytes, Rd.step, h1, h0, if_true, Nat.zero_add]
                      rw [e1] at hx
                      refine hx.mono ?_
                      rintro e w16 ⟨⟨v3, rfl, ho⟩, hr, hk⟩
                      simp only at ho hr
                      obtain ⟨A33, c33, rfl, _, hr3⟩ := ho.slice
                      have R16 := Lib.hid hr
                      have Q16 := Lib.hid hr3
                      have B16 := Lib.hid (B15.out.trans (hk.belowAt B15.out.size hg2w))
                      clear ho hr hr3 hk hx e1 R15 B15 H15 M1 M2
                      go_wp2_with fail
                      refine (equal_any Q16.out (HP.out.below B16.out) (by omega)).mono ?_
                      rintro e w17 ⟨rfl, k, hk⟩
                      rw [show decide (p = p) = true from by simp]
                      have R17 := Lib.hid (show RdIs w17 g2 ⟨LB, (intF p.length ++ p).length, 0⟩ from by rw [hk]; exact R16.out.below (below_drewN (Below.refl _ _) k))
                      have B17 := Lib.hid (show Below w.heap.size w w17 from by rw [hk]; exact below_drewN B16.out k)
                      clear hk Q16 R16 B16
                      go_wp2_with fail
                      have e1 : Rd.bytes ⟨LB, (intF p.length ++ p).length, 0⟩ q.length = (q, ⟨LB, LB.length, 0⟩) := by
                        have h0 := blockF_there q [] (by omega)
                        have h1 : LB.drop (intF p.length ++ p).length = intF q.length ++ q ++ [] := by rw [ELB.out, List.drop_left, List.append_nil]
                        have h2 : (intF p.length ++ p).length + (intF q.length ++ q).length = LB.length := ((congrArg List.length ELB.out).trans List.length_append).symm
                        simp only [Rd.bytes, Rd.step, h1, h0, if_true, h2]
                      have hx := rdBytes_any R17.out q.length
                      rw [e1] at hx
                      refine hx.mono ?_
                      rintro e w18 ⟨⟨v3, rfl, ho⟩, hr, hk⟩
                      simp only at ho hr
                      obtain ⟨A34, c34, rfl, _, hr3⟩ := ho.slice
                      have R18 := Lib.hid hr
                      have Q18 := Lib.hid hr3
                      have B18 := Lib.hid (B17.out.trans (hk.belowAt B17.out.size hg2w))
                      clear ho hr hr3 hk hx e1 R17 B17
                      go_wp2_with fail
                      refine (equal_any Q18.out (HQ.out.below B18.out) (by omega)).mono ?_
                      rintro e w19 ⟨rfl, k, hk⟩
                      rw [show decide (q = q) = true from by simp]
                      have R19 := Lib.hid (show RdIs w19 g2 ⟨LB, LB.length, 0⟩ from by rw [hk]; exact R18.out.below (below_drewN (Below.refl _ _) k))
                      have B19 := Lib.hid (show Below w.heap.size w w19 from by rw [hk]; exact below_drewN B18.out k)
                      clear hk Q18 R18 B18
                      go_wp2_with fail
                      have he : Rd.end_ ⟨LB, LB.length, 0⟩ = 0 := by unfold Rd.end_ Rd.left; simp
                      have hx := end_any R19.out
                      rw [he] at hx
                      refine hx.mono ?_
                      rintro e w20 ⟨rfl, k, hk⟩
                      have B20 := Lib.hid (show Below w.heap.size w w20 from by rw [hk]; exact below_drewN B19.out k)
                      clear hk hx he R19 B19
                      go_wp2_with fail
                      refine codecFixed_any.mono ?_
                      rintro e w21 ⟨rfl, hb⟩
                      have B21 := Lib.hid (B20.out.trans (hb.mono B20.out.size))
                      clear hb B20
                      go_wp2
                      go_ret
                      exact ⟨rfl, B21.out⟩
end Go.Proofs.Ytoeccclaaogihaa
