/- Contracts and plain laws that this claim leans on, laid together: Rlv, ImgN. -/
import Derived.Test.YtmnpchncmbnddaaG15
import Derived.Test.YtmnpchncmbnddaaG13
set_option linter.all false
set_option linter.unusedVariables false
set_option linter.unusedSimpArgs false
set_option linter.unnecessarySimpa false
/- Live, of the reference's store and of a store, by contract. -/
namespace Go.Proofs.Ytmnpchncmbnddaa
open Go.RowKit

set_option maxRecDepth 100000 in
set_option maxHeartbeats 6400000 in
theorem rlive_any {w : World} {B : Nat} {A : Option Addr} {c : Nat} {R : List Vn} {S : PS} (hS : kVn.Sl w B A R) (hB : B ≤ w.heap.size) (hl : R.length ≤ 16777216) (hr : RelRS R S) :
    Calls Try.prog 18 #[.slice A R.length c] w (fun e w' => e = .returned (.int .i64 (liveP S : Nat)) ∧ Below w.heap.size w w') := by
  have HRE := Lib.hid hr
  have HLV := Lib.hid hr.live
  have HKE := Lib.hid (rkeys_any (c := c) hS hB (by omega))
  have HLA := Lib.hid (fun (W : World) (hb : Below w.heap.size w W) (key : ByteArray) => rlast_any (w := W) (c := c) (hS.keep (fun p hp => hb.cell (Nat.lt_of_lt_of_le hp hB))) (Nat.le_trans hB hb.size) (by omega) key)
  obtain ⟨N, hN⟩ : ∃ N, N = R.length := ⟨_, rfl⟩
  have HN := Lib.hid hN
  rw [← hN] at hl HKE HLA ⊢
  clear hS hB hN hr
  go_enter Try.func18, Try.ntmps18
  go_wp2_with fail
  refine HKE.out.mono ?_
  rintro e w1 ⟨AK, n, cK, hn, rfl, t1⟩
  obtain ⟨ks, hks⟩ : ∃ ks, ks = keysR R := ⟨_, rfl⟩
  have HKS := Lib.hid hks
  rw [← hks] at hn t1 HLV
  have HNK := Lib.hid hn
  have hnb : n ≤ 16777216 := by
    have h1 := keysR_len R
    rw [← hks] at h1
    have := HN.out
    omega
  obtain ⟨KI, hKI⟩ : ∃ KI, KI = Item.rowT 9 1 (.slice AK n cK) n (ks.map encStr) := ⟨_, rfl⟩
  have HKI := Lib.hid hKI
  rw [← hKI] at t1
  have T1 := Lib.hid (show 0 = liveR R (ks.take 0) ∧ Turn (Item.all []) w (Item.all [KI]) w1 from ⟨rfl, t1⟩)
  clear HKE hn t1 hks hKI
  go_wp2
  go_loopw [11, 3] (fun t u wr => ∃ (i T : Nat), t = .int .i64 i ∧ u = .int .i64 T ∧ i ≤ n ∧ T ≤ 4351 * i ∧ Hid (T = liveR R (ks.take i) ∧ Turn (Item.all []) w (Item.all [KI]) wr)) (fun t _ _ => n - (intOf t).toNat)
  case atStart => exact ⟨0, 0, rfl, rfl, Nat.zero_le _, by omega, T1⟩
  case round =>
    clear T1
    obtain ⟨i, T, rfl, rfl, hi, hT4, hH⟩ := hrel
    by_cases hlt : (i : Int) < (n : Int)
    · have hil : i < ks.length := by have := HNK.out; omega
      have hii : i + 1 ≤ n := by omega
      obtain ⟨kk, hkk⟩ : ∃ k, k = ks[i] := ⟨_, rfl⟩
      have r0 : ∃ bb off, AK = some ⟨bb, off, none⟩ ∧ wr.cell? ⟨bb, off + i, none⟩ = some (.string ⟨kk.toArray⟩) := by
        have hk : (Item.rowT 9 1 (.slice AK n cK) n (ks.map encStr)).P wr := HKI.out ▸ hH.out.2.get (i := 0) rfl
        obtain ⟨bb, off, hA, _, hcell⟩ := (Reads.of_own hk).2 (by omega)
        exact ⟨bb, off, hA, hcell i _ (by rw [List.getElem?_map, List.getElem?_eq_getElem hil, hkk]; rfl)⟩
      obtain ⟨kbb, ko, hA, r0⟩ := r0
      subst hA
      obtain ⟨kb, hkb⟩ : ∃ b : ByteArray, b = ⟨kk.toArray⟩ := ⟨_, rfl⟩
      rw [← hkb] at r0
      have HKB := Lib.hid (show kb.size = kk.length from by rw [hkb]; exact List.size_toArray)
      have hW := HRE.out.weight (k := kk) (by rw [← HKS.out, hkk]; exact List.getElem_mem _)
      have hkb255 : kb.size ≤ 255 := by rw [HKB.out]; exact hW.2
      have HWB := Lib.hid hW.1
      have HSN := Lib.hid (show liveR R (ks.take (i + 1)) = liveR R (ks.take i) + weightR R kk from by rw [liveR_snoc hil, hkk])
      have HLK := Lib.hid (HLA.out wr hH.out.2.free kb)
      have T2 := Lib.hid hH.out.2
      have HT0 := Lib.hid hH.out.1
      have HKBE := Lib.hid hkb
      clear hW hH hkk hkb
      go_wp2_with fail
      refine HLK.out.mono ?_
      rintro e w2 ⟨⟨A8, c8, rfl⟩, hb2⟩
      obtain ⟨o, ho⟩ : ∃ o, o = newL R kb 4611686018427387904 := ⟨_, rfl⟩
      rw [← ho]
      obtain ⟨⟨ok_, os, ov, od⟩, hov⟩ : ∃ v, v = o.getD vz := ⟨_, rfl⟩
      have HWT := Lib.hid (show weightR R kk = if od = true then 0 else kb.size + ov.length from by
        unfold weightR
        rw [← HKBE.out, ← ho, HKB.out]
        cases o with
        | none =>
          have h1 : od = false := congrArg Vn.dead hov
          have h2 : ov = [] := congrArg Vn.value hov
          rw [h1, h2]; rfl
        | some v =>
          have h1 : od = v.dead := congrArg Vn.dead hov
          have h2 : ov = v.value := congrArg Vn.value hov
          rw [h1, h2])
      rw [← hov, show Vn.cells ⟨ok_, os, ov, od⟩ A8 c8 = #[.string ok_, .int .i64 os, .slice A8 ov.length c8, .bool od] from rfl]
      obtain ⟨b, hb_⟩ : ∃ b, b = o.isSome := ⟨_, rfl⟩
      rw [← hb_]
      obtain ⟨g3, hg3⟩ : ∃ g, g = w2.heap.size := ⟨_, rfl⟩
      obtain ⟨w3, hw3⟩ : ∃ y, y = w2.alloc (.cells #[.string ok_, .int .i64 os, .slice A8 ov.length c8, .bool od] 88) := ⟨_, rfl⟩
      have HW3 := Lib.hid hw3
      have T3 := Lib.hid (show Turn (Item.all []) w (Item.all [Item.blk g3 88 #[.string ok_, .int .i64 os, .slice A8 ov.length c8, .bool od], KI]) w3 from by
        rw [hw3, hg3]
        exact (T2.out.go hb2).more (y := Item.blk w2.heap.size 88 #[.string ok_, .int .i64 os, .slice A8 ov.length c8, .bool od]) ((Below.refl _ _).alloc (Nat.le_refl _) _) (Blk.new _ _ _) (fun k hk => Nat.le_of_eq hk.symm))
      clear HLK hb2 ho hov hb_ hw3 T2 r0
      go_upto_region 6 with fail
      rw [← HW3.out]
      rw [← hg3]
      clear HW3 hg3
      have x2 := Blk.cell (show Blk w3 g3 _ #[.string ok_, .int .i64 os, .slice A8 ov.length c8, .bool od] from T3.out.get (i := 0) rfl) 2
      have x3 := Blk.cell (show Blk w3 g3 _ #[.string ok_, .int .i64 os, .slice A8 ov.length c8, .bool od] from T3.out.get (i := 0) rfl) 3
      simp only [List.getElem?_toArray, List.getElem?_cons_zero, List.getElem?_cons_succ] at x2 x3
      have T4 := Lib.hid (T3.out.sub (List.sublist_cons_self _ _))
      cases od with
      | true =>
        have HR := Lib.hid (show T = liveR R (ks.take (i + 1)) ∧ Turn (Item.all []) w (Item.all [KI]) w3 from ⟨by rw [HSN.out, HWT.out, ← HT0.out]; rfl, T4.out⟩)
        clear T3 T4
        go_wp2
        exact ⟨⟨i + 1, T, by go_num, rfl, hii, by omega, HR⟩, by simp [intOf]; omega⟩
      | false =>
        have hwt : weightR R kk = kb.size + ov.length := HWT.out
        have hov : kb.size + ov.length ≤ 4351 := by have := HWB.out; omega
        obtain ⟨T', hT'⟩ : ∃ t, t = T + (kb.size + ov.length) := ⟨_, rfl⟩
        have HR := Lib.hid (show T' = liveR R (ks.take (i + 1)) ∧ Turn (Item.all []) w (Item.all [KI]) w3 from ⟨by rw [hT', HSN.out, hwt, ← HT0.out], T4.out⟩)
        have HT' := Lib.hid hT'
        have hT5 : T' ≤ 4351 * (i + 1) := by omega
        clear T3 T4 hwt hT'
        go_wp2
        exact ⟨⟨i + 1, T', by go_num, by rw [HT'.out]; go_num, hii, hT5, HR⟩, by simp [intOf]; omega⟩
    · obtain rfl : i = n := by omega
      have HE := Lib.hid (show T = liveP S from by rw [hH.out.1, HNK.out, List.take_length, HLV.out])
      have HB := Lib.hid hH.out.2.free
      clear hH
      go_wp2
      go_ret
      exact ⟨by rw [HE.out]; rfl, HB.out⟩
set_option maxRecDepth 100000 in
set_option maxHeartbeats 3200000 in
theorem live_any {w : World} {s : St} {N : Nat} (h : s.item.P w) (hok : s.ok N) :
    Calls Try.prog 17 #[.pointer (some ⟨s.gs, 0, none⟩)] w (fun e w' => e = .returned (.int .i64 (liveP s.view : Nat)) ∧ Below w.heap.size w w') := by
  have y1 := (St.blk h).cell 1
  have hlt := (St.blk h).lt
  simp only [List.getElem?_toArray, List.getElem?_cons_zero, List.getElem?_cons_succ] at y1
  rw [hok.live, live_view] at y1
  obtain ⟨g, hg⟩ : ∃ g, g = s.gs := ⟨_, rfl⟩
  rw [← hg] at y1 hlt ⊢
  obtain ⟨L, hL⟩ : ∃ L, L = liveP s.view := ⟨_, rfl⟩
  rw [← hL] at y1 ⊢
  clear h hok hg hL
  go_enter Try.func17, Try.ntmps17
  go_wp2
  go_ret
  exact ⟨rfl, Below.refl _ _⟩
end Go.Proofs.Ytmnpchncmbnddaa
/- Rebuild: Image of a store that is not there. -/
namespace Go.Proofs.Ytmnpchncmbnddaa
open Go.RowKit

end Go.Proofs.Ytmnpchncmbnddaa
