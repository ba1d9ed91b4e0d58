/- Contracts and plain laws that this claim leans on, laid together: Area3, WalQ, WalS, Disk5, Vast. -/
import Derived.Test.YtmnpchncmbnddaaGreatG05
import Derived.Test.YtmnpchncmbnddaaGreatG08
import Derived.Test.YtmnpchncmbnddaaGreatG11
set_option linter.all false
set_option linter.unusedVariables false
set_option linter.unusedSimpArgs false
set_option linter.unnecessarySimpa false
/- Areas: Crash, by contract. -/
namespace Go.Proofs.YtmnpchncmbnddaaGreat
open Go.RowKit

theorem bits_xor_u8 (a b : UInt8) : bits .xor .u8 (a.toNat : Int) (b.toNat : Int) = ((a ^^^ b).toNat : Int) := by
  show IntKind.u8.wrap ((BitVec.ofInt 8 (a.toNat : Int) ^^^ BitVec.ofInt 8 (b.toNat : Int)).toNat : Int) = _
  rw [BitVec.toNat_xor, BitVec.ofInt_natCast, BitVec.ofInt_natCast, BitVec.toNat_ofNat, BitVec.toNat_ofNat, UInt8.toNat_xor, IntKind.wrap_u8]
  have ha := UInt8.toNat_lt a
  have hb := UInt8.toNat_lt b
  rw [Nat.mod_eq_of_lt (show a.toNat < 2 ^ 8 from ha), Nat.mod_eq_of_lt (show b.toNat < 2 ^ 8 from hb)]
  have h : a.toNat ^^^ b.toNat < 2 ^ 8 := Nat.xor_lt_two_pow ha hb
  omega
/-- The last byte changed. -/
def lastX (l : List UInt8) (t : UInt8) : List UInt8 := l.set (l.length - 1) (l.getD (l.length - 1) 0 ^^^ t)
theorem lastX_len (l : List UInt8) (t : UInt8) : (lastX l t).length = l.length := by unfold lastX; rw [List.length_set]
/-- How many loose bytes are kept. -/
def keptF (a : Ar) (keep : Int) : Nat := (max 0 (min keep ((a.l.length : Int) - (a.safe : Int)))).toNat
/-- The area behind a loss of power. -/
def Ar.crash (a : Ar) (keep : Int) (t : UInt8) : Ar := { a with l := if keptF a keep = 0 then a.l.take a.safe else lastX (a.l.take (a.safe + keptF a keep)) t, safe := a.safe + keptF a keep }
set_option maxRecDepth 100000 in
set_option maxHeartbeats 3200000 in
theorem aCrash_any {w : World} {a : Ar} (h : a.item.P w) (keep : Int) (t : UInt8) (hs : a.safe ≤ a.l.length) (hl : a.l.length ≤ 140737488355328) :
    Calls Tryz.prog 94 #[.pointer (some ⟨a.g, 0, none⟩), .int .i64 keep, .int .u8 t.toNat] w (ErrTurn a w 0 (a.crash keep t)) := by
  have H := Lib.hid h
  have hcap := Ar.cap h
  have q1 := (Ar.blk h).cell 1
  have q2 := (Ar.blk h).cell 2
  unfold Ar.cells at q1 q2
  simp at q1 q2
  obtain ⟨len, hn⟩ : ∃ n, n = a.l.length := ⟨_, rfl⟩
  obtain ⟨c, hc⟩ : ∃ n, n = a.c := ⟨_, rfl⟩
  obtain ⟨s, hsf⟩ : ∃ n, n = a.safe := ⟨_, rfl⟩
  obtain ⟨K, hK⟩ : ∃ K, K = keptF a keep := ⟨_, rfl⟩
  rw [← hn] at q1 hl hcap hs
  rw [← hc] at q1 hcap
  rw [← hsf] at hs q2
  obtain ⟨r, hr⟩ : ∃ r : Nat, r = len - s := ⟨_, rfl⟩
  have hsub : (len : Int) - (s : Int) = (r : Int) := by omega
  obtain ⟨m, hm⟩ : ∃ m : Int, m = min keep (r : Int) := ⟨_, rfl⟩
  have hmax : max 0 m = (K : Int) := by
    rw [hK]; unfold keptF; rw [← hn, ← hsf, hsub, ← hm]; omega
  obtain ⟨e, he⟩ : ∃ e : Nat, e = s + K := ⟨_, rfl⟩
  have hKr : K ≤ r := by rw [hm] at hmax; omega
  have hsum : (s : Int) + (K : Int) = (e : Int) := by omega
  have hel : e ≤ len := by omega
  have w1 : IntKind.i64.wrap (r : Int) = (r : Int) := by rw [IntKind.wrap_i64]; omega
  have w2 : IntKind.i64.wrap (e : Int) = (e : Int) := by rw [IntKind.wrap_i64]; omega
  have hm' := hm.symm
  have HLEN := Lib.hid hn
  have HC := Lib.hid hc
  have HSF := Lib.hid hsf
  have HK := Lib.hid hK
  have HE := Lib.hid he
  clear h hn hc hsf hK hr he hm
  by_cases hk0 : 0 < keep
  · by_cases hrk : (r : Int) < keep
    · by_cases hr0 : 0 < (r : Int)
      · have hr0n : 0 < r := by omega
        have hrK : r = K := by omega
        subst hrK
        go_enter Tryz.func94, Tryz.ntmps94
        go_wp2
        go_quiet (fail)
        go_upto_region 4 with fail
        obtain ⟨W, hW⟩ : ∃ W, W = w.drewN nq := ⟨_, rfl⟩
        rw [← hW]
        have BD := Lib.hid (show Below w.heap.size w W from by rw [hW]; exact below_drewN (Below.refl _ _) nq)
        have H1 := Lib.hid (Item.go H.out BD.out)
        have r1 := (Ar.blk H1.out).cell 1
        have r2 := (Ar.blk H1.out).cell 2
        have f1 := (Ar.blk H1.out).frozen 1
        unfold Ar.cells at r1 r2
        simp at r1 r2
        rw [← HLEN.out, ← HC.out] at r1
        rw [← HSF.out] at r2
        have hel' : (e : Int) ≤ (len : Int) := by omega
        have hec : (e : Int) ≤ (c : Int) := by omega
        clear hW q1 q2 hsub hmax hm' w1
        go_region
        have hkk : (a.l.take e).length = e := by rw [List.length_take, ← HLEN.out]; omega
        have T1 := Ar.turnRow (a := a) (w := W) (w1 := W) (A' := a.A) (c' := c) (l' := a.l.take e) (u := .slice a.A e c) H1.out
          (Turn.row (l := a.l) (base := 0) (by
            have hr2 : BOwns W 0 (.slice a.A a.l.length a.c) a.l := Ar.row H1.out
            have := BOwns.less hr2 (k := e) (by rw [← HLEN.out]; exact hel)
            rw [← HC.out] at this
            rwa [hkk]) (Keeps.refl _ _) (.inl (by unfold Ar.v; cases a.A <;> rfl)))
          (by rw [hkk])
        have T2 := Lib.hid (Turn.pre BD.out (T1.go (Below.refl _ _).drew))
        have hA1 : (Ar.item { a with c := c, l := a.l.take e }).P (W.setCell ⟨a.g, 1, none⟩ (.slice a.A e c)).drew := (T1.go (Below.refl _ _).drew).p
        obtain ⟨W2, hW2⟩ : ∃ W2, W2 = (W.setCell ⟨a.g, 1, none⟩ (.slice a.A e c)).drew := ⟨_, rfl⟩
        rw [← hW2] at T2 hA1
        have q1 := (Ar.blk hA1).cell 1
        have q2 := (Ar.blk hA1).cell 2
        have f2 := (Ar.blk hA1).frozen 2
        unfold Ar.cells at q1 q2
        simp at q1 q2 f2
        have HKK := Lib.hid hkk
        rw [show min e a.l.length = e from by rw [← HLEN.out]; omega] at q1
        have T3 := Lib.hid (T2.out.trans (Ar.turnCell (b := { a with c := c, l := a.l.take e, safe := e }) hA1 2 (.int .i64 (e : Int)) rfl rfl rfl (by unfold Ar.cells; simp)))
        have HW2 := Lib.hid hW2.symm
        clear T1 hkk hA1 hW2 T2 r1 r2 f1
        go_upto_region 5 with fail
        rw [HW2.out]
        have HROW := Lib.hid (show BOwns (W2.setCell ⟨a.g, 2, none⟩ (.int .i64 (e : Int))) 0 (.slice a.A (a.l.take e).length c) (a.l.take e) from Ar.row T3.out.p)
        have HA3 := Lib.hid T3.out.p
        clear HW2
        obtain ⟨W3, hW3⟩ : ∃ W3, W3 = (W2.setCell ⟨a.g, 2, none⟩ (.int .i64 (e : Int))) := ⟨_, rfl⟩
        have HW3 := Lib.hid hW3.symm
        rw [← hW3] at T3 HROW HA3
        clear hW3
        go_upto_region 7 with fail
        rw [HW3.out]
        clear q1 q2 f2 HW3
        obtain ⟨e1, he1⟩ : ∃ x : Nat, x = e - 1 := ⟨_, rfl⟩
        have he1i : (e : Int) - 1 = (e1 : Int) := by omega
        have w3 : IntKind.i64.wrap (e1 : Int) = (e1 : Int) := by rw [IntKind.wrap_i64]; omega
        have he1l : (e1 : Int) < (e : Int) := by omega
        have hlk : (a.l.take e).length = e := HKK.out
        obtain ⟨gb, hA, h1, h2, h3, h4⟩ := BOwns.block HROW.out (by rw [hlk]; omega)
        have s1 := (Ar.blk HA3.out).cell 1
        have s2 := (Ar.blk HA3.out).cell 2
        unfold Ar.cells at s1 s2
        simp at s1 s2
        rw [show min e a.l.length = e from by rw [← HLEN.out]; omega, hA] at s1
        rw [hA]
        have fb := h3 e1
        have cb := h4 e1 (by rw [hlk]; omega)
        obtain ⟨x, hx⟩ : ∃ x, x = (a.l.take e)[e1]'(by rw [hlk]; omega) := ⟨_, rfl⟩
        rw [← hx] at cb
        have hxor := bits_xor_u8 x t
        have hst := BOwns.store (by have := HROW.out; rw [hA] at this; exact this) (i := e1) (by rw [hlk]; omega) (x ^^^ t)
        have HXL := Lib.hid (show (a.l.take e).set e1 (x ^^^ t) = lastX (a.l.take e) t from by
          unfold lastX
          rw [hlk, ← he1, hx, List.getD_eq_getElem?_getD, List.getElem?_eq_getElem (by rw [hlk]; omega)]
          rfl)
        have TR := Turn.second HA3.out (Turn.row (l := a.l.take e) (v := .slice a.A (a.l.take e).length c) (v' := .slice a.A (lastX (a.l.take e) t).length c) (base := 0) (by
          rw [HXL.out] at hst
          rw [lastX_len, hA]; exact hst) ((Keeps.refl (fun k => some k = (Value.slice a.A (a.l.take e).length c).ownBlock) W3).setCell (p := ⟨gb, e1, none⟩) (.inl (by rw [hA]; rfl)) (.int .u8 ((x ^^^ t).toNat : Int))) (.inl (by rw [lastX_len])))
        have HFIN := Lib.hid (show Turn a.item w (a.crash keep t).item (W3.setCell ⟨gb, e1, none⟩ (.int .u8 ((x ^^^ t).toNat : Int))) from by
          have e2 : a.crash keep t = { a with c := c, l := lastX (a.l.take e) t, safe := e } := by
            unfold Ar.crash
            rw [if_neg (by rw [← HK.out]; omega), ← HK.out, ← HSF.out, ← HC.out, ← HE.out]
          rw [e2]
          refine T3.out.trans ?_
          have e3 : (Ar.item { a with c := c, l := lastX (a.l.take e) t, safe := e }) = Item.all [Item.blk a.g 221 (Ar.cells { a with c := c, l := a.l.take e, safe := e }), Item.row (.slice a.A (lastX (a.l.take e) t).length c) (lastX (a.l.take e) t)] := by
            unfold Ar.item Ar.cells Ar.v
            simp only [lastX_len]
          rw [e3]
          exact TR)
        clear TR hst HXL hx h1 h2 h3 h4 HROW HA3 T3 he1
        go_region
        go_wp2
        go_ret
        exact ⟨rfl, HFIN.out.go (Below.refl _ _).drew⟩
      · obtain rfl : K = 0 := by omega
        obtain rfl : r = 0 := by omega
        obtain rfl : e = s := by omega
        go_enter Tryz.func94, Tryz.ntmps94
        go_wp2
        go_quiet (fail)
        go_upto_region 4 with fail
        obtain ⟨W, hW⟩ : ∃ W, W = w.drewN nq := ⟨_, rfl⟩
        rw [← hW]
        have BD := Lib.hid (show Below w.heap.size w W from by rw [hW]; exact below_drewN (Below.refl _ _) nq)
        have H1 := Lib.hid (Item.go H.out BD.out)
        have r1 := (Ar.blk H1.out).cell 1
        have r2 := (Ar.blk H1.out).cell 2
        have f1 := (Ar.blk H1.out).frozen 1
        unfold Ar.cells at r1 r2
        simp at r1 r2
        rw [← HLEN.out, ← HC.out] at r1
        rw [← HSF.out] at r2
        have hel' : (e : Int) ≤ (len : Int) := by omega
        have hec : (e : Int) ≤ (c : Int) := by omega
        clear hW q1 q2 hsub hmax hm' w1
        go_region
        have hkk : (a.l.take e).length = e := by rw [List.length_take, ← HLEN.out]; omega
        have T1 := Ar.turnRow (a := a) (w := W) (w1 := W) (A' := a.A) (c' := c) (l' := a.l.take e) (u := .slice a.A e c) H1.out
          (Turn.row (l := a.l) (base := 0) (by
            have hr2 : BOwns W 0 (.slice a.A a.l.length a.c) a.l := Ar.row H1.out
            have := BOwns.less hr2 (k := e) (by rw [← HLEN.out]; exact hel)
            rw [← HC.out] at this
            rwa [hkk]) (Keeps.refl _ _) (.inl (by unfold Ar.v; cases a.A <;> rfl)))
          (by rw [hkk])
        have T2 := Lib.hid (Turn.pre BD.out (T1.go (Below.refl _ _).drew))
        have hA1 : (Ar.item { a with c := c, l := a.l.take e }).P (W.setCell ⟨a.g, 1, none⟩ (.slice a.A e c)).drew := (T1.go (Below.refl _ _).drew).p
        obtain ⟨W2, hW2⟩ : ∃ W2, W2 = (W.setCell ⟨a.g, 1, none⟩ (.slice a.A e c)).drew := ⟨_, rfl⟩
        rw [← hW2] at T2 hA1
        have q1 := (Ar.blk hA1).cell 1
        have q2 := (Ar.blk hA1).cell 2
        have f2 := (Ar.blk hA1).frozen 2
        unfold Ar.cells at q1 q2
        simp at q1 q2 f2
        have HKK := Lib.hid hkk
        rw [show min e a.l.length = e from by rw [← HLEN.out]; omega] at q1
        have T3 := Lib.hid (T2.out.trans (Ar.turnCell (b := { a with c := c, l := a.l.take e, safe := e }) hA1 2 (.int .i64 (e : Int)) rfl rfl rfl (by unfold Ar.cells; simp)))
        have HW2 := Lib.hid hW2.symm
        clear T1 hkk hA1 hW2 T2 r1 r2 f1
        go_upto_region 5 with fail
        rw [HW2.out]
        clear HW2
        go_wp2
        go_ret
        exact ⟨rfl, by
          have e1 : a.crash keep t = { a with c := c, l := a.l.take e, safe := e } := by
            unfold Ar.crash
            rw [if_pos (by rw [← HK.out]), ← HK.out, ← HSF.out, ← HC.out]
            rfl
          rw [e1]; exact T3.out⟩
    · have hkK : keep = (K : Int) := by omega
      subst hkK
      have hr0n : 0 < K := by omega
      have hrkn : ¬ r < K := by omega
      go_enter Tryz.func94, Tryz.ntmps94
      go_wp2
      go_quiet (fail)
      go_upto_region 4 with fail
      obtain ⟨W, hW⟩ : ∃ W, W = w.drewN nq := ⟨_, rfl⟩
      rw [← hW]
      have BD := Lib.hid (show Below w.heap.size w W from by rw [hW]; exact below_drewN (Below.refl _ _) nq)
      have H1 := Lib.hid (Item.go H.out BD.out)
      have r1 := (Ar.blk H1.out).cell 1
      have r2 := (Ar.blk H1.out).cell 2
      have f1 := (Ar.blk H1.out).frozen 1
      unfold Ar.cells at r1 r2
      simp at r1 r2
      rw [← HLEN.out, ← HC.out] at r1
      rw [← HSF.out] at r2
      have hel' : (e : Int) ≤ (len : Int) := by omega
      have hec : (e : Int) ≤ (c : Int) := by omega
      clear hW q1 q2 hsub hmax hm' w1
      go_region
      have hkk : (a.l.take e).length = e := by rw [List.length_take, ← HLEN.out]; omega
      have T1 := Ar.turnRow (a := a) (w := W) (w1 := W) (A' := a.A) (c' := c) (l' := a.l.take e) (u := .slice a.A e c) H1.out
        (Turn.row (l := a.l) (base := 0) (by
          have hr2 : BOwns W 0 (.slice a.A a.l.length a.c) a.l := Ar.row H1.out
          have := BOwns.less hr2 (k := e) (by rw [← HLEN.out]; exact hel)
          rw [← HC.out] at this
          rwa [hkk]) (Keeps.refl _ _) (.inl (by unfold Ar.v; cases a.A <;> rfl)))
        (by rw [hkk])
      have T2 := Lib.hid (Turn.pre BD.out (T1.go (Below.refl _ _).drew))
      have hA1 : (Ar.item { a with c := c, l := a.l.take e }).P (W.setCell ⟨a.g, 1, none⟩ (.slice a.A e c)).drew := (T1.go (Below.refl _ _).drew).p
      obtain ⟨W2, hW2⟩ : ∃ W2, W2 = (W.setCell ⟨a.g, 1, none⟩ (.slice a.A e c)).drew := ⟨_, rfl⟩
      rw [← hW2] at T2 hA1
      have q1 := (Ar.blk hA1).cell 1
      have q2 := (Ar.blk hA1).cell 2
      have f2 := (Ar.blk hA1).frozen 2
      unfold Ar.cells at q1 q2
      simp at q1 q2 f2
      have HKK := Lib.hid hkk
      rw [show min e a.l.length = e from by rw [← HLEN.out]; omega] at q1
      have T3 := Lib.hid (T2.out.trans (Ar.turnCell (b := { a with c := c, l := a.l.take e, safe := e }) hA1 2 (.int .i64 (e : Int)) rfl rfl rfl (by unfold Ar.cells; simp)))
      have HW2 := Lib.hid hW2.symm
      clear T1 hkk hA1 hW2 T2 r1 r2 f1
      go_upto_region 5 with fail
      rw [HW2.out]
      have HROW := Lib.hid (show BOwns (W2.setCell ⟨a.g, 2, none⟩ (.int .i64 (e : Int))) 0 (.slice a.A (a.l.take e).length c) (a.l.take e) from Ar.row T3.out.p)
      have HA3 := Lib.hid T3.out.p
      clear HW2
      obtain ⟨W3, hW3⟩ : ∃ W3, W3 = (W2.setCell ⟨a.g, 2, none⟩ (.int .i64 (e : Int))) := ⟨_, rfl⟩
      have HW3 := Lib.hid hW3.symm
      rw [← hW3] at T3 HROW HA3
      clear hW3
      go_upto_region 7 with fail
      rw [HW3.out]
      clear q1 q2 f2 HW3
      obtain ⟨e1, he1⟩ : ∃ x : Nat, x = e - 1 := ⟨_, rfl⟩
      have he1i : (e : Int) - 1 = (e1 : Int) := by omega
      have w3 : IntKind.i64.wrap (e1 : Int) = (e1 : Int) := by rw [IntKind.wrap_i64]; omega
      have he1l : (e1 : Int) < (e : Int) := by omega
      have hlk : (a.l.take e).length = e := HKK.out
      obtain ⟨gb, hA, h1, h2, h3, h4⟩ := BOwns.block HROW.out (by rw [hlk]; omega)
      have s1 := (Ar.blk HA3.out).cell 1
      have s2 := (Ar.blk HA3.out).cell 2
      unfold Ar.cells at s1 s2
      simp at s1 s2
      rw [show min e a.l.length = e from by rw [← HLEN.out]; omega, hA] at s1
      rw [hA]
      have fb := h3 e1
      have cb := h4 e1 (by rw [hlk]; omega)
      obtain ⟨x, hx⟩ : ∃ x, x = (a.l.take e)[e1]'(by rw [hlk]; omega) := ⟨_, rfl⟩
      rw [← hx] at cb
      have hxor := bits_xor_u8 x t
      have hst := BOwns.store (by have := HROW.out; rw [hA] at this; exact this) (i := e1) (by rw [hlk]; omega) (x ^^^ t)
      have HXL := Lib.hid (show (a.l.take e).set e1 (x ^^^ t) = lastX (a.l.take e) t from by
        unfold lastX
        rw [hlk, ← he1, hx, List.getD_eq_getElem?_getD, List.getElem?_eq_getElem (by rw [hlk]; omega)]
        rfl)
      have TR := Turn.second HA3.out (Turn.row (l := a.l.take e) (v := .slice a.A (a.l.take e).length c) (v' := .slice a.A (lastX (a.l.take e) t).length c) (base := 0) (by
        rw [HXL.out] at hst
        rw [lastX_len, hA]; exact hst) ((Keeps.refl (fun k => some k = (Value.slice a.A (a.l.take e).length c).ownBlock) W3).setCell (p := ⟨gb, e1, none⟩) (.inl (by rw [hA]; rfl)) (.int .u8 ((x ^^^ t).toNat : Int))) (.inl (by rw [lastX_len])))
      have HFIN := Lib.hid (show Turn a.item w (a.crash (K : Int) t).item (W3.setCell ⟨gb, e1, none⟩ (.int .u8 ((x ^^^ t).toNat : Int))) from by
        have e2 : a.crash (K : Int) t = { a with c := c, l := lastX (a.l.take e) t, safe := e } := by
          unfold Ar.crash
          rw [if_neg (by rw [← HK.out]; omega), ← HK.out, ← HSF.out, ← HC.out, ← HE.out]
        rw [e2]
        refine T3.out.trans ?_
        have e3 : (Ar.item { a with c := c, l := lastX (a.l.take e) t, safe := e }) = Item.all [Item.blk a.g 221 (Ar.cells { a with c := c, l := a.l.take e, safe := e }), Item.row (.slice a.A (lastX (a.l.take e) t).length c) (lastX (a.l.take e) t)] := by
          unfold Ar.item Ar.cells Ar.v
          simp only [lastX_len]
        rw [e3]
        exact TR)
      clear TR hst HXL hx h1 h2 h3 h4 HROW HA3 T3 he1
      go_region
      go_wp2
      go_ret
      exact ⟨rfl, HFIN.out.go (Below.refl _ _).drew⟩
  · have hrk : ¬ (r : Int) < keep := by omega
    obtain rfl : K = 0 := by omega
    obtain rfl : e = s := by omega
    go_enter Tryz.func94, Tryz.ntmps94
    go_wp2
    go_quiet (fail)
    go_upto_region 4 with fail
    obtain ⟨W, hW⟩ : ∃ W, W = w.drewN nq := ⟨_, rfl⟩
    rw [← hW]
    have BD := Lib.hid (show Below w.heap.size w W from by rw [hW]; exact below_drewN (Below.refl _ _) nq)
    have H1 := Lib.hid (Item.go H.out BD.out)
    have r1 := (Ar.blk H1.out).cell 1
    have r2 := (Ar.blk H1.out).cell 2
    have f1 := (Ar.blk H1.out).frozen 1
    unfold Ar.cells at r1 r2
    simp at r1 r2
    rw [← HLEN.out, ← HC.out] at r1
    rw [← HSF.out] at r2
    have hel' : (e : Int) ≤ (len : Int) := by omega
    have hec : (e : Int) ≤ (c : Int) := by omega
    clear hW q1 q2 hsub hmax hm' w1
    go_region
    have hkk : (a.l.take e).length = e := by rw [List.length_take, ← HLEN.out]; omega
    have T1 := Ar.turnRow (a := a) (w := W) (w1 := W) (A' := a.A) (c' := c) (l' := a.l.take e) (u := .slice a.A e c) H1.out
      (Turn.row (l := a.l) (base := 0) (by
        have hr2 : BOwns W 0 (.slice a.A a.l.length a.c) a.l := Ar.row H1.out
        have := BOwns.less hr2 (k := e) (by rw [← HLEN.out]; exact hel)
        rw [← HC.out] at this
        rwa [hkk]) (Keeps.refl _ _) (.inl (by unfold Ar.v; cases a.A <;> rfl)))
      (by rw [hkk])
    have T2 := Lib.hid (Turn.pre BD.out (T1.go (Below.refl _ _).drew))
    have hA1 : (Ar.item { a with c := c, l := a.l.take e }).P (W.setCell ⟨a.g, 1, none⟩ (.slice a.A e c)).drew := (T1.go (Below.refl _ _).drew).p
    obtain ⟨W2, hW2⟩ : ∃ W2, W2 = (W.setCell ⟨a.g, 1, none⟩ (.slice a.A e c)).drew := ⟨_, rfl⟩
    rw [← hW2] at T2 hA1
    have q1 := (Ar.blk hA1).cell 1
    have q2 := (Ar.blk hA1).cell 2
    have f2 := (Ar.blk hA1).frozen 2
    unfold Ar.cells at q1 q2
    simp at q1 q2 f2
    have HKK := Lib.hid hkk
    rw [show min e a.l.length = e from by rw [← HLEN.out]; omega] at q1
    have T3 := Lib.hid (T2.out.trans (Ar.turnCell (b := { a with c := c, l := a.l.take e, safe := e }) hA1 2 (.int .i64 (e : Int)) rfl rfl rfl (by unfold Ar.cells; simp)))
    have HW2 := Lib.hid hW2.symm
    clear T1 hkk hA1 hW2 T2 r1 r2 f1
    go_upto_region 5 with fail
    rw [HW2.out]
    clear HW2
    go_wp2
    go_ret
    exact ⟨rfl, by
      have e1 : a.crash keep t = { a with c := c, l := a.l.take e, safe := e } := by
        unfold Ar.crash
        rw [if_pos (by rw [← HK.out]), ← HK.out, ← HSF.out, ← HC.out]
        rfl
      rw [e1]; exact T3.out⟩
end Go.Proofs.YtmnpchncmbnddaaGreat
/- What a log tells behind a loss of power in the midst of its frames: the plain law. -/
namespace Go.Proofs.YtmnpchncmbnddaaGreat
open Go.RowKit

end Go.Proofs.YtmnpchncmbnddaaGreat
/- Steps of the laws about logs, as arguments. -/
namespace Go.Proofs.YtmnpchncmbnddaaGreat
open Go.RowKit

/-- A fate. -/
structure Ft where
  done : Int
  keep : Int
  torn : Int
/-- A step of a script. -/
structure Ws where
  kind : Int
  area : Int
  a : Int
  entries : List En
  p : List UInt8
  fates : List Ft
def kFt : Kd Ft := kAs (kPair (kInt .i64) (kPair (kInt .i64) (kInt .u8))) (fun s => (s.done, s.keep, s.torn))
set_option maxRecDepth 100000 in
theorem opens_ft : Opens kFt 76 :=
  opens_as (opens_struct (K := kPair (kInt .i64) (kPair (kInt .i64) (kInt .u8))) (by kernel_rfl) Tryz.underlying76
    (opensF_cons (opens_int (by kernel_rfl) Tryz.underlying3) rfl (opensF_cons (opens_int (by kernel_rfl) Tryz.underlying3) rfl (opensF_one (opens_int (by kernel_rfl) Tryz.underlying5) rfl))))
    (fun s : Ft => (s.done, s.keep, s.torn)) (fun a => ⟨a.1, a.2.1, a.2.2⟩) (fun _ => rfl)
def Ws.ints (s : Ws) : Prop := (-9223372036854775808 ≤ s.kind ∧ s.kind ≤ 9223372036854775807) ∧ (-9223372036854775808 ≤ s.area ∧ s.area ≤ 9223372036854775807) ∧ (-9223372036854775808 ≤ s.a ∧ s.a ≤ 9223372036854775807)
end Go.Proofs.YtmnpchncmbnddaaGreat
/- Disks: arm, Arm, Strike: by contract. -/
namespace Go.Proofs.YtmnpchncmbnddaaGreat
open Go.RowKit

theorem ft_at {w : World} {B : Nat} {A : Option Addr} {l : List Ft} (h : kFt.Sl w B A l) {i : Nat} (hi : i < l.length) :
    ∃ b off, A = some ⟨b, off, none⟩ ∧ b < B ∧ w.cell? ⟨b, off + i * 3, none⟩ = some (.int .i64 (l[i]).done) ∧ w.cell? ⟨b, off + i * 3 + 1, none⟩ = some (.int .i64 (l[i]).keep) ∧ w.cell? ⟨b, off + i * 3 + 2, none⟩ = some (.int .u8 (l[i]).torn) := by
  obtain ⟨b, off, hA, hb, hr⟩ := h (by omega)
  obtain ⟨cs, hR, hc⟩ := hr i _ (List.getElem?_eq_getElem hi)
  obtain ⟨d1, d2, rfl, ⟨rfl, hk⟩, d3, d4, rfl, ⟨rfl, hs⟩, ⟨rfl, hn⟩⟩ := hR
  exact ⟨b, off, hA, hb, hc 0 _ rfl, hc 1 _ rfl, hc 2 _ rfl⟩
/-- A part with a fate laid down. -/
def Pt.armed (p : Pt) (f : Option Ft) : Pt := match f with
  | some f => { p with fd := f.done, fk := f.keep, ft := f.torn, done := 0 }
  | none => { p with fd := 0, fk := 0, ft := 0, done := 0 }
/-- The parts, the first K of them armed. -/
def armK (fs : List Ft) (ps : List Pt) (K : Nat) : List Pt := ps.mapIdx fun i p => if i < K then p.armed fs[i]? else p
theorem armK_get? (fs : List Ft) (ps : List Pt) (K i : Nat) : (armK fs ps K)[i]? = ps[i]?.map fun p => if i < K then p.armed fs[i]? else p := by unfold armK; rw [List.getElem?_mapIdx]
theorem armK_zero (fs : List Ft) (ps : List Pt) : armK fs ps 0 = ps := by
  apply List.ext_getElem?
  intro i
  rw [armK_get?]; simp
theorem armK_len (fs : List Ft) (ps : List Pt) (K : Nat) : (armK fs ps K).length = ps.length := by unfold armK; simp
theorem armK_get {fs : List Ft} {ps : List Pt} {K : Nat} {p : Pt} (h : ps[K]? = some p) : (armK fs ps K)[K]? = some p := by rw [armK_get?, h]; simp
theorem armK_succ {fs : List Ft} {ps : List Pt} {K : Nat} {p : Pt} (h : ps[K]? = some p) : (armK fs ps K).set K (p.armed fs[K]?) = armK fs ps (K + 1) := by
  have hlt : K < ps.length := (List.getElem?_eq_some_iff.1 h).1
  apply List.ext_getElem?
  intro i
  rw [List.getElem?_set, armK_len, armK_get?, armK_get?]
  by_cases hi : K = i
  · subst hi; rw [if_pos rfl, if_pos hlt, h]; simp
  · rw [if_neg hi]
    cases hp : ps[i]? with
    | none => rfl
    | some q =>
      simp only [Option.map_some]
      by_cases h3 : i < K
      · rw [if_pos h3, if_pos (by omega)]
      · rw [if_neg h3, if_neg (by omega)]
def armF (fs : List Ft) (ps : List Pt) : List Pt := ps.mapIdx fun i p => p.armed fs[i]?
theorem armK_all (fs : List Ft) (ps : List Pt) : armK fs ps ps.length = armF fs ps := by
  apply List.ext_getElem?
  intro i
  unfold armF
  rw [armK_get?, List.getElem?_mapIdx]
  cases hp : ps[i]? with
  | none => rfl
  | some q =>
    have : i < ps.length := (List.getElem?_eq_some_iff.1 hp).1
    simp only [Option.map_some, if_pos this]
theorem dput_put (d : Dk) (i : Nat) (p q : Pt) : (d.put i p).put i q = d.put i q := by unfold Dk.put; simp [List.set_set]
theorem dput_get {d : Dk} {i : Nat} {p : Pt} (q : Pt) (h : d.ps[i]? = some p) : (d.put i q).ps[i]? = some q := by
  have : i < d.ps.length := (List.getElem?_eq_some_iff.1 h).1
  unfold Dk.put; simp [this]
theorem turn_fate {w : World} {d : Dk} {K : Nat} {p : Pt} (h : d.item.P w) (hp : d.ps[K]? = some p) (a b c : Int) :
    Turn d.item w (d.put K { p with fd := a, fk := b, ft := c }).item (((w.setCell ⟨d.gp, K * 5 + 1, none⟩ (.int .i64 a)).setCell ⟨d.gp, K * 5 + 1 + 1, none⟩ (.int .i64 b)).setCell ⟨d.gp, K * 5 + 1 + 2, none⟩ (.int .u8 c)) := by
  have t1 := Dk.turnCell (j := 1) (q := { p with fd := a }) h hp (by decide) (.int .i64 a) rfl rfl
  have t2 := Dk.turnCell (j := 2) (q := { p with fd := a, fk := b }) t1.p (dput_get _ hp) (by decide) (.int .i64 b) rfl rfl
  have t3 := Dk.turnCell (j := 3) (q := { p with fd := a, fk := b, ft := c }) t2.p (dput_get _ (dput_get _ hp)) (by decide) (.int .u8 c) rfl rfl
  rw [dput_put] at t2
  rw [dput_put, dput_put] at t3
  exact (t1.trans t2).trans t3
set_option maxRecDepth 100000 in
set_option maxHeartbeats 3200000 in
theorem arm_any {w : World} {d : Dk} (h : d.item.P w) (hn : d.ps.length ≤ 16) {A : Option Addr} {c : Nat} {fs : List Ft} (hS : Stays d.item.own w (fun w' => kFt.Sl w' w.heap.size A fs)) (hfl : fs.length ≤ 140737488355328) (ar : Bool) :
    Calls Tryz.prog 93 #[.pointer (some ⟨d.g, 0, none⟩), .slice A fs.length c, .bool ar] w fun e w' => e = .returned (.tuple #[]) ∧ Turn d.item w (Dk.item { d with armed := ar, ps := armF fs d.ps }) w' := by
  have H := Lib.hid h
  have HS := Lib.hid hS
  obtain ⟨n, hN⟩ : ∃ n, n = d.ps.length := ⟨_, rfl⟩
  have q0 := (Dk.blk h).cell 0
  simp at q0
  rw [← hN] at q0 hn
  have HN := Lib.hid hN
  have HT0 := Lib.hid (show Turn d.item w (Dk.item { d with ps := armK fs d.ps 0 }) w from by rw [armK_zero]; exact Turn.refl h)
  clear h hS hN
  go_enter Tryz.func93, Tryz.ntmps93
  go_wp2
  go_loopw [12] (fun t wr => ∃ (K : Nat), t = .int .i64 K ∧ K ≤ n ∧ Hid (Turn d.item w (Dk.item { d with ps := armK fs d.ps K }) wr)) (fun t _ => n - (intOf t).toNat)
  case atStart => exact ⟨0, rfl, by omega, HT0⟩
  case round =>
    obtain ⟨K, rfl, hK, hT⟩ := hrel
    by_cases hlt : (K : Int) < (n : Int)
    · have hKN : K < d.ps.length := by have := HN.out; omega
      have hKn : K < n := by omega
      obtain ⟨p, hp⟩ : ∃ p, d.ps[K]? = some p := ⟨_, List.getElem?_eq_getElem hKN⟩
      have HP := Lib.hid hp
      go_upto_region 3 with fail
      have HTD := Lib.hid (hT.out.go (Below.refl _ _).drew)
      have r0 := (Dk.blk HTD.out.p).cell 0
      have c1 := Dk.cell HTD.out.p (armK_get (fs := fs) hp) (j := 1) (by decide)
      have c2 := Dk.cell HTD.out.p (armK_get (fs := fs) hp) (j := 2) (by decide)
      have c3 := Dk.cell HTD.out.p (armK_get (fs := fs) hp) (j := 3) (by decide)
      have c4 := Dk.cell HTD.out.p (armK_get (fs := fs) hp) (j := 4) (by decide)
      have f1 := (Dk.parts HTD.out.p).frozen (K * 5 + 1)
      have f2 := (Dk.parts HTD.out.p).frozen (K * 5 + 2)
      have f3 := (Dk.parts HTD.out.p).frozen (K * 5 + 3)
      have f4 := (Dk.parts HTD.out.p).frozen (K * 5 + 4)
      simp [Pt.cells, armK_len] at r0 c1 c2 c3 c4 f1 f2 f3 f4
      rw [← HN.out] at r0
      have hKi : K + 1 ≤ n := by omega
      have HT := Lib.hid hT.out
      clear hp hT
      go_region
      obtain ⟨D0, hD0⟩ : ∃ D : Dk, D = { d with ps := armK fs d.ps K } := ⟨_, rfl⟩
      have hD0p : D0.ps[K]? = some p := by rw [hD0]; exact armK_get HP.out
      have HSUC := Lib.hid (show D0.put K (p.armed fs[K]?) = { d with ps := armK fs d.ps (K + 1) } from by rw [hD0, ← armK_succ HP.out]; rfl)
      rw [← hD0] at HT
      have t4 := turn_fate HT.out.p hD0p 0 0 0
      have t5 := Dk.turnCell (j := 4) (q := { p with fd := 0, fk := 0, ft := 0, done := 0 }) t4.p (dput_get _ hD0p) (by decide) (.int .i64 0) rfl rfl
      rw [dput_put] at t5
      have hgp : D0.gp = d.gp := by rw [hD0]
      have hgp2 : (D0.put K { p with fd := 0, fk := 0, ft := 0 }).gp = d.gp := by rw [← hgp]; rfl
      rw [hgp] at t4 t5
      rw [hgp2] at t5
      have HT5 := Lib.hid ((HT.out.trans (t4.trans t5)).go (Below.refl _ _).drew)
      obtain ⟨W, hW⟩ : ∃ W, W = ((((wr.setCell ⟨d.gp, K * 5 + 1, none⟩ (.int .i64 0)).setCell ⟨d.gp, K * 5 + 1 + 1, none⟩ (.int .i64 0)).setCell ⟨d.gp, K * 5 + 1 + 2, none⟩ (.int .u8 0)).setCell ⟨d.gp, K * 5 + 4, none⟩ (.int .i64 0)).drew := ⟨_, rfl⟩
      rw [← hW] at HT5
      have HW := Lib.hid hW.symm
      have HD0 := Lib.hid hD0
      have HD0P := Lib.hid hD0p
      clear hW t4 t5 HT HTD r0 c1 c2 c3 c4 f1 f2 f3 f4 hD0 hD0p hgp hgp2
      by_cases hKf : (K : Int) < (fs.length : Int)
      · have hKfn : K < fs.length := by omega
        obtain ⟨bb, off, rfl, hbb, s0, s1, s2⟩ := ft_at ((HS.out.at_ HT5.out.k).below (Below.refl _ _).drew) hKfn
        have hget : fs[K]? = some fs[K] := List.getElem?_eq_getElem hKfn
        obtain ⟨x, hx⟩ : ∃ x, x = fs[K] := ⟨_, rfl⟩
        rw [← hx] at hget s0 s1 s2
        have HG := Lib.hid hget
        clear hx hget
        go_upto_region 5 with fail
        rw [HW.out]
        have HTD := Lib.hid (HT5.out.go (Below.refl _ _).drew)
        have hp5 := dput_get { p with fd := 0, fk := 0, ft := 0, done := 0 } HD0P.out
        have r0 := (Dk.blk HTD.out.p).cell 0
        have c1 := Dk.cell HTD.out.p hp5 (j := 1) (by decide)
        have c2 := Dk.cell HTD.out.p hp5 (j := 2) (by decide)
        have c3 := Dk.cell HTD.out.p hp5 (j := 3) (by decide)
        have f1 := (Dk.parts HTD.out.p).frozen (K * 5 + 1)
        have f2 := (Dk.parts HTD.out.p).frozen (K * 5 + 2)
        have f3 := (Dk.parts HTD.out.p).frozen (K * 5 + 3)
        have hg0 : (D0.put K { p with fd := 0, fk := 0, ft := 0, done := 0 }).g = d.g := by rw [HD0.out]; rfl
        have hgp0 : (D0.put K { p with fd := 0, fk := 0, ft := 0, done := 0 }).gp = d.gp := by rw [HD0.out]; rfl
        have hpl0 : (D0.put K { p with fd := 0, fk := 0, ft := 0, done := 0 }).ps.length = n := by rw [HD0.out, HN.out]; simp [Dk.put, armK_len]
        rw [hg0, hgp0, hpl0] at r0
        rw [hgp0] at c1 c2 c3 f1 f2 f3
        simp [Pt.cells] at r0 c1 c2 c3 f1 f2 f3
        have t6 := turn_fate HT5.out.p hp5 x.done x.keep x.torn
        rw [hgp0, dput_put] at t6
        have HR := Lib.hid (show Turn d.item w (Dk.item { d with ps := armK fs d.ps (K + 1) }) ((((W.setCell ⟨d.gp, K * 5 + 1, none⟩ (.int .i64 x.done)).setCell ⟨d.gp, K * 5 + 1 + 1, none⟩ (.int .i64 x.keep)).setCell ⟨d.gp, K * 5 + 1 + 2, none⟩ (.int .u8 x.torn)).drew) from by
          rw [← HSUC.out, HG.out]; exact (HT5.out.trans t6).go (Below.refl _ _).drew)
        clear t6 HTD hp5 hg0 hgp0 hpl0 HT5 HG HSUC HW
        go_region
        go_wp2
        exact ⟨⟨K + 1, by go_num, hKi, HR⟩, by simp [intOf]; omega⟩
      · have hget : fs[K]? = none := List.getElem?_eq_none (by omega)
        have HR := Lib.hid (show Turn d.item w (Dk.item { d with ps := armK fs d.ps (K + 1) }) W from by rw [← HSUC.out, hget]; exact HT5.out)
        clear hget
        go_wp2_with fail
        rw [HW.out]
        exact ⟨⟨K + 1, by go_num, hKi, HR⟩, by simp [intOf]; omega⟩
    · obtain rfl : K = n := by omega
      have HTE := Lib.hid (show Turn d.item w (Dk.item { d with ps := armF fs d.ps }) wr from by have := hT.out; rwa [HN.out, armK_all] at this)
      have r1 := (Dk.blk HTE.out.p).cell 1
      have f1 := (Dk.blk HTE.out.p).frozen 1
      simp at r1 f1
      have HF := Lib.hid (HTE.out.trans (show Turn (Dk.item { d with ps := armF fs d.ps }) wr (Dk.item { d with armed := ar, ps := armF fs d.ps }) (wr.setCell ⟨d.g, 1, none⟩ (.bool ar)) from Turn.head HTE.out.p (Turn.cell (Dk.blk HTE.out.p) 1 (.bool ar))))
      clear HTE hT
      go_wp2
      refine bodyPost_end (results_none rfl _ _ _) rfl ?_
      exact ⟨rfl, HF.out⟩
theorem arm_call {w : World} {d : Dk} (h : d.item.P w) (hn : d.ps.length ≤ 16) {A : Option Addr} {c : Nat} {fs : List Ft} (hS : Stays d.item.own w (fun w' => kFt.Sl w' w.heap.size A fs)) (hfl : fs.length ≤ 140737488355328) :
    Calls Tryz.prog 35 #[.pointer (some ⟨d.g, 0, none⟩), .slice A fs.length c] w fun e w' => e = .returned (.tuple #[]) ∧ Turn d.item w (Dk.item { d with armed := true, ps := armF fs d.ps }) w' := by
  have HX := Lib.hid (arm_any (c := c) h hn hS hfl true)
  clear h hS
  go_enter Tryz.func35, Tryz.ntmps35
  go_wp2_with fail
  refine HX.out.mono ?_
  rintro e w1 ⟨rfl, t⟩
  have T := Lib.hid t
  clear t
  go_wp2
  refine bodyPost_end (results_none rfl _ _ _) rfl ?_
  exact ⟨rfl, T.out⟩
def ftB (n : Int) : UInt8 := UInt8.ofNat n.toNat
theorem ftB_of {n : Int} (h0 : 0 ≤ n) (h1 : n < 256) : ((ftB n).toNat : Int) = n := by
  unfold ftB
  rw [UInt8.toNat_ofNat', Nat.mod_eq_of_lt (show n.toNat < 2 ^ 8 by omega)]; omega
/-- A part behind a loss of power. -/
def Pt.crash (ar : Bool) (p : Pt) : Pt := { p with a := p.a.crash (if ar then p.fk else 0) (ftB (if ar then p.ft else 0)) }
def crashK (ar : Bool) (ps : List Pt) (K : Nat) : List Pt := ps.mapIdx fun i p => if i < K then p.crash ar else p
theorem crashK_get? (ar : Bool) (ps : List Pt) (K i : Nat) : (crashK ar ps K)[i]? = ps[i]?.map fun p => if i < K then p.crash ar else p := by unfold crashK; rw [List.getElem?_mapIdx]
theorem crashK_zero (ar : Bool) (ps : List Pt) : crashK ar ps 0 = ps := by
  apply List.ext_getElem?
  intro i
  rw [crashK_get?]; simp
theorem crashK_len (ar : Bool) (ps : List Pt) (K : Nat) : (crashK ar ps K).length = ps.length := by unfold crashK; simp
theorem crashK_get {ar : Bool} {ps : List Pt} {K : Nat} {p : Pt} (h : ps[K]? = some p) : (crashK ar ps K)[K]? = some p := by rw [crashK_get?, h]; simp
theorem crashK_succ {ar : Bool} {ps : List Pt} {K : Nat} {p : Pt} (h : ps[K]? = some p) : (crashK ar ps K).set K (p.crash ar) = crashK ar ps (K + 1) := by
  have hlt : K < ps.length := (List.getElem?_eq_some_iff.1 h).1
  apply List.ext_getElem?
  intro i
  rw [List.getElem?_set, crashK_len, crashK_get?, crashK_get?]
  by_cases hi : K = i
  · subst hi; rw [if_pos rfl, if_pos hlt, h]; simp
  · rw [if_neg hi]
    cases hp : ps[i]? with
    | none => rfl
    | some q =>
      simp only [Option.map_some]
      by_cases h3 : i < K
      · rw [if_pos h3, if_pos (by omega)]
      · rw [if_neg h3, if_neg (by omega)]
theorem crashK_all (ar : Bool) (ps : List Pt) : crashK ar ps ps.length = ps.map (Pt.crash ar) := by
  apply List.ext_getElem?
  intro i
  rw [crashK_get?, List.getElem?_map]
  cases hp : ps[i]? with
  | none => rfl
  | some q =>
    have : i < ps.length := (List.getElem?_eq_some_iff.1 hp).1
    simp only [Option.map_some, if_pos this]
set_option maxRecDepth 100000 in
set_option maxHeartbeats 3200000 in
theorem strike_any {w : World} {d : Dk} (h : d.item.P w) (hn : d.ps.length ≤ 16) (hok : ∀ p ∈ d.ps, p.a.safe ≤ p.a.l.length ∧ p.a.l.length ≤ 140737488355328 ∧ 0 ≤ p.ft ∧ p.ft < 256) :
    Calls Tryz.prog 36 #[.pointer (some ⟨d.g, 0, none⟩)] w fun e w' => e = .returned (.tuple #[]) ∧ Turn d.item w (Dk.item { d with armed := false, ps := armF [] (d.ps.map (Pt.crash d.armed)) }) w' := by
  have HOK := Lib.hid hok
  obtain ⟨n, hN⟩ : ∃ n, n = d.ps.length := ⟨_, rfl⟩
  have q0 := (Dk.blk h).cell 0
  simp at q0
  rw [← hN] at q0 hn
  have HN := Lib.hid hN
  obtain ⟨ar, har⟩ : ∃ b, b = d.armed := ⟨_, rfl⟩
  have HAR := Lib.hid har
  have HT0 := Lib.hid (show Turn d.item w (Dk.item { d with ps := crashK ar d.ps 0 }) w from by rw [crashK_zero]; exact Turn.refl h)
  rw [← har]
  clear h hok hN har
  go_enter Tryz.func36, Tryz.ntmps36
  go_wp2
  go_loopw [12] (fun t wr => ∃ (K : Nat), t = .int .i64 K ∧ K ≤ n ∧ Hid (Turn d.item w (Dk.item { d with ps := crashK ar d.ps K }) wr)) (fun t _ => n - (intOf t).toNat)
  case atStart => exact ⟨0, rfl, by omega, HT0⟩
  case round =>
    obtain ⟨K, rfl, hK, hT⟩ := hrel
    by_cases hlt : (K : Int) < (n : Int)
    · have hKN : K < d.ps.length := by have := HN.out; omega
      have hKn : K < n := by omega
      obtain ⟨p, hp⟩ : ∃ p, d.ps[K]? = some p := ⟨_, List.getElem?_eq_getElem hKN⟩
      have HP := Lib.hid hp
      have HOP := Lib.hid (HOK.out p (List.mem_of_getElem? hp))
      have hgK := crashK_get (ar := ar) hp
      have c0 := Dk.cell hT.out.p hgK (j := 0) (by decide)
      have c1 := Dk.cell hT.out.p hgK (j := 1) (by decide)
      have c2 := Dk.cell hT.out.p hgK (j := 2) (by decide)
      have c3 := Dk.cell hT.out.p hgK (j := 3) (by decide)
      have c4 := Dk.cell hT.out.p hgK (j := 4) (by decide)
      have r1 := (Dk.blk hT.out.p).cell 1
      simp [Pt.cells] at c0 c1 c2 c3 c4 r1
      have hl1 := (Dk.blk hT.out.p).lt
      have hl2 := (Dk.parts hT.out.p).lt
      rw [← HAR.out] at r1
      have hKi : K + 1 ≤ n := by omega
      clear hp hgK
      cases ar with
      | true =>
        go_wp2_with fail
        obtain ⟨W, hW⟩ : ∃ W, W = (wr.alloc (.cells #[.pointer (some ⟨p.a.g, 0, none⟩), .int .i64 p.fd, .int .i64 p.fk, .int .u8 p.ft, .int .i64 p.done] 146)).alloc (.cells #[.int .i64 p.fd, .int .i64 p.fk, .int .u8 p.ft] 76) := ⟨_, rfl⟩
        have HTW := Lib.hid (show Turn d.item w (Dk.item { d with ps := crashK true d.ps K }) W from by
          rw [hW]; exact hT.out.go (((Below.refl _ _).alloc (Nat.le_refl _) _).alloc (by simp) _))
        rw [← hW]
        clear hW hT
        have hgK := crashK_get (ar := true) HP.out
        have HC := Lib.hid (aCrash_any (Dk.area HTW.out.p hgK) p.fk (ftB p.ft) HOP.out.1 HOP.out.2.1)
        rw [ftB_of HOP.out.2.2.1 HOP.out.2.2.2] at HC
        refine HC.out.mono ?_
        rintro e w2 ⟨rfl, t2⟩
        have HR := Lib.hid (show Turn d.item w (Dk.item { d with ps := crashK true d.ps (K + 1) }) w2 from by
          have t3 := HTW.out.trans (Dk.turnArea HTW.out.p hgK t2 rfl)
          rw [← crashK_succ HP.out]
          exact t3)
        clear HTW HC t2 hgK
        go_wp2
        exact ⟨⟨K + 1, by go_num, hKi, HR⟩, by simp [intOf]; omega⟩
      | false =>
        go_wp2_with fail
        obtain ⟨W, hW⟩ : ∃ W, W = (wr.alloc (.cells #[.pointer (some ⟨p.a.g, 0, none⟩), .int .i64 p.fd, .int .i64 p.fk, .int .u8 p.ft, .int .i64 p.done] 146)).alloc (.cells #[.int .i64 0, .int .i64 0, .int .u8 0] 76) := ⟨_, rfl⟩
        have HTW := Lib.hid (show Turn d.item w (Dk.item { d with ps := crashK false d.ps K }) W from by
          rw [hW]; exact hT.out.go (((Below.refl _ _).alloc (Nat.le_refl _) _).alloc (by simp) _))
        rw [← hW]
        clear hW hT
        have hgK := crashK_get (ar := false) HP.out
        have HC := Lib.hid (aCrash_any (Dk.area HTW.out.p hgK) 0 (ftB 0) HOP.out.1 HOP.out.2.1)
        rw [ftB_of (by decide) (by decide)] at HC
        refine HC.out.mono ?_
        rintro e w2 ⟨rfl, t2⟩
        have HR := Lib.hid (show Turn d.item w (Dk.item { d with ps := crashK false d.ps (K + 1) }) w2 from by
          have t3 := HTW.out.trans (Dk.turnArea HTW.out.p hgK t2 rfl)
          rw [← crashK_succ HP.out]
          exact t3)
        clear HTW HC t2 hgK
        go_wp2
        exact ⟨⟨K + 1, by go_num, hKi, HR⟩, by simp [intOf]; omega⟩
    · obtain rfl : K = n := by omega
      have HTE := Lib.hid (show Turn d.item w (Dk.item { d with ps := d.ps.map (Pt.crash ar) }) wr from by have := hT.out; rwa [HN.out, crashK_all] at this)
      have HX := Lib.hid (arm_any (A := none) (c := 0) (fs := []) HTE.out.p (by have := HN.out; simp; omega) (fun w' _ => sl_nil) (by simp) false)
      clear hT
      go_wp2_with fail
      refine HX.out.mono ?_
      rintro e w2 ⟨rfl, t2⟩
      have HF := Lib.hid (HTE.out.trans t2)
      clear t2 HX HTE
      go_wp2
      refine bodyPost_end (results_none rfl _ _ _) rfl ?_
      exact ⟨rfl, HF.out⟩
end Go.Proofs.YtmnpchncmbnddaaGreat
/- The law's vast, by contract; packs of entries as arguments. -/
namespace Go.Proofs.YtmnpchncmbnddaaGreat
open Go.RowKit

end Go.Proofs.YtmnpchncmbnddaaGreat
