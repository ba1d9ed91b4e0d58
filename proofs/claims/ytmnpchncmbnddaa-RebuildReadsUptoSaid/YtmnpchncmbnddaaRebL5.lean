/- Laws of layer 20: every Read, of any entries and any start: the law's walk. -/
import Derived.Test.YtmnpchncmbnddaaG18
import Derived.Test.YtmnpchncmbnddaaG19
import Derived.Test.YtmnpchncmbnddaaRebL1
import Derived.Test.YtmnpchncmbnddaaRebL4
set_option linter.all false
set_option linter.unusedVariables false
set_option linter.unusedSimpArgs false
set_option linter.unnecessarySimpa false
namespace Go.Proofs.Ytmnpchncmbnddaa
open Go.RowKit

set_option maxRecDepth 100000 in
set_option maxHeartbeats 12800000 in
theorem rebuildReads_walk {w : World} {A0 : Option Addr} {c0 : Nat} {l : List En} (h0 : kEn.Sl w w.heap.size A0 l) (hc0 : l.length ≤ c0) (start : Int) (hn0 : IntKind.min .i64 ≤ start) (hn1 : start ≤ IntKind.max .i64) (hk : (kSlice kEn).bulk l + 1 ≤ 1048576) :
    Calls Try.prog 4 #[.slice A0 l.length c0, .int .i64 start] w (True_ w) := by
  have hbk := ens_bulk l
  have HKS := Lib.hid (show ∀ e ∈ l, e.key.size ≤ 1099511627776 ∧ e.value.length ≤ 1099511627776 from fun e he => by have := hbk.2 e he; omega)
  have HS := Lib.hid h0
  obtain ⟨N, hN⟩ : ∃ N, N = l.length := ⟨_, rfl⟩
  have HN := Lib.hid hN
  have hNl : N ≤ 1048576 := by omega
  have HRR := Lib.hid (rread_any (start := start) (c := c0) HS.out (by rw [← HN.out]; omega) hc0 HKS.out)
  rw [← hN] at hc0 HRR ⊢
  clear h0 hn0 hn1 hk hbk hN
  go_enter Try.func4, Try.ntmps4
  go_wp2_with fail
  refine HRR.out.mono ?_
  rintro e w1 ⟨S, now, n, A1, m1, c1, hs1, hg, hre, hm1, rfl, t1⟩
  have HG := Lib.hid hg
  have HRE := Lib.hid hre
  have HM1 := Lib.hid hm1
  have T1 := Lib.hid t1
  have hnN : n ≤ N := by have := hg.1.le; rw [← HN.out] at this; exact this
  have HTO := Lib.hid (show totP S ≤ N from by have := hg.1.ok.2.1; omega)
  have hmN : m1 ≤ N := by
    have h1 := hre.len
    rw [List.length_map, ← hm1] at h1
    have := HTO.out
    omega
  have HRD := Lib.hid (rbRead_any (w := w1) (start := start) (c := c0) (HS.out.below T1.out.free) T1.out.free.size (by rw [← HN.out]; omega) (by rw [← HN.out]; exact hc0) HKS.out)
  rw [← HN.out] at HRD
  clear hg hre hm1 t1 HRR
  go_wp2_with fail
  refine HRD.out.mono ?_
  rintro e w2 ⟨S2, now2, n2, hg2, s, rfl, hok, hv, t2⟩
  obtain ⟨rfl, rfl, rfl⟩ := hg2.one HG.out
  have T2 := Lib.hid (T1.out.join t2)
  have HK := Lib.hid (And.intro hok hv)
  have HPO := Lib.hid HG.out.1.ok.1
  have HV1 := Lib.hid (rbVers_any (w := w2) (T2.out.get (i := 1) rfl) HK.out.1 (by rw [HK.out.2]; exact HPO.out) (by omega) (by rw [HK.out.2]; have := HTO.out; omega))
  rw [HK.out.2] at HV1
  have HVN := Lib.hid (totP_vers S2)
  clear hg2 hok hv t2 HRD
  go_wp2_with fail
  refine HV1.out.mono ?_
  rintro e w3 ⟨A3, c3, rfl, hs3, hb3⟩
  have T3 := Lib.hid (T2.out.go hb3)
  have HS3 := Lib.hid hs3
  have HSR := Lib.hid (hv_sl (T3.out.get (i := 0) rfl) HM1.out HRE.out.ints)
  have HRV := Lib.hid (rversions_any (w := w3) (c := c1) HSR.out (Nat.le_refl _) (by rw [List.length_map, ← HM1.out]; omega) HRE.out.up (fun v hv => (HRE.out.each v hv).1))
  rw [List.length_map, ← HM1.out] at HRV
  obtain ⟨n3, hn3⟩ : ∃ x, x = (versF S2).length := ⟨_, rfl⟩
  have HN3 := Lib.hid hn3
  have hn3b : n3 ≤ 1048576 := by rw [hn3, HVN.out]; have := HTO.out; omega
  rw [← hn3]
  clear hb3 hs3 HV1 T2 hn3
  go_wp2_with fail
  refine HRV.out.mono ?_
  rintro e w4 ⟨A4, n4, c4, ts4, hn4, rfl, hts4, hok4, t4⟩
  rw [HRE.out.vers] at hn4 hts4
  have hn34 : n4 = n3 := hn4.trans HN3.out.symm
  subst hn34
  have T4 := Lib.hid (T3.out.go t4.free)
  have HS4 := Lib.hid (show kVn.Sl w4 w4.heap.size A4 (versF S2) from by
    have h := slv_of_row (ts := ts4) (B := w4.heap.size) (t4.get (i := 0) rfl) (by rw [← List.length_map (f := Hv.x), hts4, HN3.out]) (fun k hk => Item.lt _ (t4.get (i := 0) rfl) hk) (fun t ht => ⟨(hok4 t ht).1, Reads.more ((hok4 t ht).2.1.below t4.free) t4.free.size, (hok4 t ht).2.2⟩)
    rwa [hts4] at h)
  have HAL := Lib.hid (alike_any (w := w4) (c := c3) (c' := c4) (l := versF S2) ((HS3.out.below t4.free).more t4.free.size) HS4.out (by rw [← HN3.out]; omega))
  rw [← HN3.out] at HAL
  clear hn4 hts4 hok4 t4 HRV HS3 T3
  go_wp2_with fail
  refine HAL.out.mono ?_
  rintro e w5 ⟨rfl, hb5⟩
  have T5 := Lib.hid (T4.out.go hb5)
  have HLV := Lib.hid (live_any (w := w5) (T5.out.get (i := 1) rfl) HK.out.1)
  rw [HK.out.2] at HLV
  obtain ⟨LV, hLV⟩ : ∃ x, x = liveP S2 := ⟨_, rfl⟩
  have HLE := Lib.hid hLV
  rw [← hLV] at HLV
  clear hb5 HAL HS4 T4 HSR hLV
  go_wp2_with fail
  refine HLV.out.mono ?_
  rintro e w6 ⟨rfl, hb6⟩
  have T6 := Lib.hid (T5.out.go hb6)
  have HSR := Lib.hid (hv_sl (T6.out.get (i := 0) rfl) HM1.out HRE.out.ints)
  have HRL := Lib.hid (rlive_any (w := w6) (c := c1) HSR.out (Nat.le_refl _) (by rw [List.length_map, ← HM1.out]; omega) HRE.out)
  rw [List.length_map, ← HM1.out, ← HLE.out] at HRL
  clear hb6 HLV T5
  go_wp2_with fail
  refine HRL.out.mono ?_
  rintro e w7 ⟨rfl, hb7⟩
  have T7 := Lib.hid (T6.out.go hb7)
  clear hb7 HRL T6 HSR
  go_wp2_with fail
  refine rebuildFixed_any.mono ?_
  rintro e w8 ⟨rfl, hb8⟩
  have HR := Lib.hid (show True_ w (.returned (.bool true)) w8 from ⟨rfl, (T7.out.go hb8).free⟩)
  clear hb8 T7
  go_wp2
  go_ret
  exact HR.out
end Go.Proofs.Ytmnpchncmbnddaa

