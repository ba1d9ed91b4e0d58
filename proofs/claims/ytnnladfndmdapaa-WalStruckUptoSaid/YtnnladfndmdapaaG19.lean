/- Contracts and plain laws that this claim leans on, laid together: Vast. -/
import Derived.Test.YtnnladfndmdapaaG18
set_option linter.all false
set_option linter.unusedVariables false
set_option linter.unusedSimpArgs false
set_option linter.unnecessarySimpa false
/- The law's vast, by contract; packs of entries as arguments. -/
namespace Go.Proofs.Ytnnladfndmdapaa
open Go.RowKit

def vsum (l : List En) : Nat := (l.map fun e => 1 + e.key.size + e.value.length).sum
def vsumA (ps : List (List En)) : Nat := (ps.map vsum).sum
theorem vsum_snoc {l : List En} {k : Nat} (h : k < l.length) : vsum (l.take (k + 1)) = vsum (l.take k) + (1 + (l[k]).key.size + (l[k]).value.length) := by
  unfold vsum
  rw [List.take_succ_eq_append_getElem h, List.map_append, List.sum_append]; simp
theorem vsumA_snoc {l : List (List En)} {k : Nat} (h : k < l.length) : vsumA (l.take (k + 1)) = vsumA (l.take k) + vsum l[k] := by
  unfold vsumA
  rw [List.take_succ_eq_append_getElem h, List.map_append, List.sum_append]; simp
theorem packs_at {w : World} {B : Nat} {A : Option Addr} {l : List (List En)} (h : (kSlice kEn).Sl w B A l) {i : Nat} (hi : i < l.length) :
    ∃ b off A' c', A = some ⟨b, off, none⟩ ∧ b < B ∧ w.cell? ⟨b, off + i, none⟩ = some (.slice A' (l[i]).length c') ∧ kEn.Sl w B A' l[i] ∧ (l[i]).length ≤ c' := by
  obtain ⟨b, off, hA, hb, hr⟩ := h (by omega)
  obtain ⟨cs, ⟨A', c', rfl, h1, h2⟩, hc⟩ := hr i _ (List.getElem?_eq_getElem hi)
  have h0 := hc 0 _ rfl
  have e : off + i * (kSlice kEn).size + 0 = off + i := by show off + i * 1 + 0 = off + i; omega
  rw [e] at h0
  exact ⟨b, off, A', c', hA, hb, h0, h2, h1⟩
theorem bools_at {w : World} {B : Nat} {A : Option Addr} {l : List Bool} (h : kBool.Sl w B A l) {i : Nat} (hi : i < l.length) :
    ∃ b off, A = some ⟨b, off, none⟩ ∧ b < B ∧ w.cell? ⟨b, off + i, none⟩ = some (.bool l[i]) := by
  obtain ⟨b, off, hA, hb, hr⟩ := h (by omega)
  obtain ⟨cs, rfl, hc⟩ := hr i _ (List.getElem?_eq_getElem hi)
  have h0 := hc 0 _ rfl
  have e : off + i * kBool.size + 0 = off + i := by show off + i * 1 + 0 = off + i; omega
  rw [e] at h0
  exact ⟨b, off, hA, hb, h0⟩
theorem opens_packs : Opens (kSlice (kSlice kEn)) 72 := opens_slice (by kernel_rfl) Try.underlying72 opens_ens (by decide) (of_decide_eq_true (by kernel_rfl))
theorem opens_bools : Opens (kSlice kBool) 73 := opens_slice (by kernel_rfl) Try.underlying73 (opens_bool (by kernel_rfl) Try.underlying4) (by decide) (of_decide_eq_true (by kernel_rfl))
set_option maxRecDepth 100000 in
set_option maxHeartbeats 1600000 in
theorem vast_any {w : World} {A : Option Addr} {c : Nat} {ps : List (List En)} (h : (kSlice kEn).Sl w w.heap.size A ps) (hl : ps.length ≤ 140737488355328) (hls : ∀ l ∈ ps, l.length ≤ 140737488355328 ∧ ∀ e ∈ l, e.key.size ≤ 140737488355328 ∧ e.value.length ≤ 140737488355328) :
    Calls Try.prog 46 #[.slice A ps.length c] w fun e w' => Below w.heap.size w w' ∧ (e = .returned (.bool true) ∨ (e = .returned (.bool false) ∧ vsumA ps ≤ 1073741824)) := by
  have H := Lib.hid h
  have HL := Lib.hid hls
  clear h hls
  go_enter Try.func46, Try.ntmps46
  go_wp2
  go_loopw [10, 3] (fun t u wr => ∃ (K T : Nat), t = .int .i64 K ∧ u = .int .i64 T ∧ K ≤ ps.length ∧ T ≤ K + 1073741824 ∧ Hid (T = K + vsumA (ps.take K)) ∧ Hid (Below w.heap.size w wr)) (fun t _ _ => ps.length - (intOf t).toNat)
  case atStart => exact ⟨0, 0, rfl, rfl, by omega, by omega, Lib.hid rfl, Lib.hid (Below.refl _ _)⟩
  case round =>
    obtain ⟨K, T, rfl, rfl, hK, hT, hV, hB⟩ := hrel
    by_cases hlt : (K : Int) < (ps.length : Int)
    · have hKN : K < ps.length := by omega
      obtain ⟨bb, off, Al, cl, rfl, hbb, s0, hsl, hcl⟩ := packs_at (H.out.below hB.out) hKN
      have HX := Lib.hid (HL.out _ (List.getElem_mem hKN))
      have HVS := Lib.hid (vsumA_snoc hKN)
      obtain ⟨l, hle⟩ : ∃ l, l = ps[K] := ⟨_, rfl⟩
      rw [← hle] at s0 hsl hcl HX HVS
      have HSL := Lib.hid ((hsl.more hB.out.size))
      have hll : l.length ≤ 140737488355328 := HX.out.1
      obtain ⟨T1, hT1⟩ : ∃ x : Nat, x = T + 1 := ⟨_, rfl⟩
      have hn1 : (T : Int) + 1 = (T1 : Int) := by omega
      have hT1b : T1 ≤ K + 1 + 1073741824 := by omega
      have hT1K : Hid (T1 = K + 1 + vsumA (ps.take K)) := Lib.hid (by have := hV.out; omega)
      have hKi : K + 1 ≤ ps.length := by omega
      clear hle hsl hT1 hV
      obtain ⟨wo, hwo⟩ : ∃ x, x = wr := ⟨_, rfl⟩
      subst hwo
      go_wp2_with fail
      go_loopw [18, 3] (fun t u wr => ∃ (M T : Nat), t = .int .i64 M ∧ u = .int .i64 T ∧ M ≤ l.length ∧ T ≤ K + 1 + 1073741824 ∧ Hid (T = K + 1 + vsumA (ps.take K) + vsum (l.take M)) ∧ Hid (Below wo.heap.size wo wr)) (fun t _ _ => l.length - (intOf t).toNat)
      case atStart => exact ⟨0, T1, rfl, rfl, by omega, hT1b, Lib.hid (by rw [hT1K.out]; simp [vsum]), Lib.hid (Below.refl _ _)⟩
      case round =>
        obtain ⟨M, R, rfl, rfl, hM, hR, hW, hB2⟩ := hrel
        by_cases hlt2 : (M : Int) < (l.length : Int)
        · have hMN : M < l.length := by omega
          obtain ⟨bb2, off2, Av, cv, rfl, hbb2, hints, s0, s1, s2, s3, s4, s5, hval⟩ := en_at (HSL.out.below hB2.out) hMN
          have hks := HX.out.2 _ (List.getElem_mem hMN)
          have HWS := Lib.hid (vsum_snoc hMN)
          obtain ⟨x, hx⟩ : ∃ x, x = l[M] := ⟨_, rfl⟩
          rw [← hx] at s0 s1 s2 s3 s4 s5 hks HWS
          obtain ⟨k, s, n, key, v, dd⟩ := x
          simp only at s0 s1 s2 s3 s4 s5 hks
          have hbr : bb2 < wr.heap.size := Nat.lt_of_lt_of_le hbb2 hB2.out.size
          have BA := Lib.hid (hB2.out.trans (((Below.refl wr.heap.size wr).alloc (Nat.le_refl _) (.cells #[.int .i64 k, .int .i64 s, .int .i64 n, .string key, .slice Av v.length cv, .bool dd] 25)).mono hB2.out.size))
          obtain ⟨a1, ha1⟩ : ∃ x : Nat, x = 1 + key.size := ⟨_, rfl⟩
          obtain ⟨a2, ha2⟩ : ∃ x : Nat, x = a1 + v.length := ⟨_, rfl⟩
          obtain ⟨R2, hR2⟩ : ∃ x : Nat, x = R + a2 := ⟨_, rfl⟩
          have e1 : (1 : Int) + (key.size : Int) = (a1 : Int) := by omega
          have e2 : (a1 : Int) + (v.length : Int) = (a2 : Int) := by omega
          have e3 : (R : Int) + (a2 : Int) = (R2 : Int) := by omega
          have HR2 := Lib.hid (show R2 = K + 1 + vsumA (ps.take K) + vsum (l.take (M + 1)) from by rw [HWS.out, hR2, hW.out, ha2, ha1]; simp only; omega)
          have hMi : M + 1 ≤ l.length := by omega
          have ha1b : (a1 : Int) ≤ 140737488355329 := by omega
          have ha2b : (a2 : Int) ≤ 281474976710657 := by omega
          have hR2b : (R2 : Int) ≤ 1000000000000000 := by omega
          have w1 : IntKind.i64.wrap (a1 : Int) = (a1 : Int) := by rw [IntKind.wrap_i64]; omega
          have w2 : IntKind.i64.wrap (a2 : Int) = (a2 : Int) := by rw [IntKind.wrap_i64]; omega
          have w3 : IntKind.i64.wrap (R2 : Int) = (R2 : Int) := by rw [IntKind.wrap_i64]; omega
          clear hx hval hints hbb2 ha1 ha2 hR2
          have HBW := Lib.hid (hB.out.trans (BA.out.mono hB.out.size))
          go_wp2_with fail
          · go_ret
            exact ⟨HBW.out, .inl rfl⟩
          · exact ⟨⟨M + 1, R2, by go_num, rfl, hMi, by omega, HR2, BA⟩, by simp [intOf]; omega⟩
        · obtain rfl : M = l.length := by omega
          have HE := Lib.hid (show R = K + 1 + vsumA (ps.take (K + 1)) from by have := hW.out; rw [List.take_length] at this; rw [HVS.out]; omega)
          have HBW := Lib.hid (hB.out.trans (hB2.out.mono hB.out.size))
          go_wp2
          exact ⟨⟨K + 1, R, by go_num, rfl, hKi, by omega, HE, HBW⟩, by simp [intOf]; omega⟩
    · obtain rfl : K = ps.length := by omega
      have HF := Lib.hid (show vsumA ps ≤ 1073741824 from by have := hV.out; rw [List.take_length] at this; omega)
      go_wp2
      go_ret
      exact ⟨hB.out, .inr ⟨rfl, HF.out⟩⟩
end Go.Proofs.Ytnnladfndmdapaa
