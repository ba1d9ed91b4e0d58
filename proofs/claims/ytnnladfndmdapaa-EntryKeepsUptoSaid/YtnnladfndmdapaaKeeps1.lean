/- EntryKeeps: bytes with marks behind them; whether they stay; bytes written over and grown: by contract. -/
import Derived.Test.YtnnladfndmdapaaMem
import Derived.Test.YtnnladfndmdapaaOwn
import Derived.BigQuiet
namespace Go.Proofs.Ytnnladfndmdapaa
open Go.RowKit

/-- The mark at a place of the spare room. -/
noncomputable def gapB (i : Nat) : UInt8 := (bits_u8 .xor (i : Int) 165).choose
theorem gapB_eq (i : Nat) : bits .xor .u8 (i : Int) 165 = ((gapB i).toNat : Int) := (bits_u8 .xor (i : Int) 165).choose_spec
noncomputable def gaps (K : Nat) : List UInt8 := (List.range K).map gapB
theorem gaps_length (K : Nat) : (gaps K).length = K := by unfold gaps; rw [List.length_map, List.length_range]
theorem gaps_snoc (l : List UInt8) (K : Nat) : l ++ gaps K ++ [gapB K] = l ++ gaps (K + 1) := by
  unfold gaps; rw [List.range_succ, List.map_append, List.append_assoc]; rfl
theorem gaps_at {l : List UInt8} {K i : Nat} (h : i < (l ++ gaps K).length) (hi : l.length ≤ i) : (l ++ gaps K)[i] = gapB (i - l.length) := by
  rw [List.getElem_append_right hi]; unfold gaps; rw [List.getElem_map, List.getElem_range]
set_option maxRecDepth 100000 in
theorem withRoom_any {w : World} {c : Nat} {A : Option Addr} {l : List UInt8} (hr : BReads w w.heap.size A l) (hl : l.length ≤ 100000000) :
    Calls Try.prog 32 #[.slice A l.length c] w (GivesB w (l ++ gaps 70)) := by
  have HR := Lib.hid hr
  clear hr
  go_enter Try.func32, Try.ntmps32
  go_wp2_with (at_builtin; refine Stop.of ?_)
  refine ⟨append_bytes (BOwns.nil w w.heap.size) HR.out.src (by simpa using by omega) (Nat.le_refl _) rfl rfl rfl rfl ?_⟩
  intro v1 w1 ho hg _
  have B1 := Lib.hid (below_of_nil hg)
  rw [List.nil_append] at ho
  have O1 := Lib.hid (show BOwns w1 w.heap.size v1 (l ++ gaps 0) from by simpa [gaps] using ho)
  clear ho hg HR
  go_wp2
  go_loopw [3, 4] (fun v i wr => ∃ K : Nat, i = .int .i64 K ∧ K ≤ 70 ∧ Hid (BOwns wr w.heap.size v (l ++ gaps K)) ∧ Hid (Below w.heap.size w wr)) (fun _ i _ => 70 - (intOf i).toNat)
  case atStart => exact ⟨0, rfl, by omega, O1, B1⟩
  case round =>
    obtain ⟨K, rfl, hK, hO, hB⟩ := hrel
    by_cases hlt : (K : Int) < 70
    · have hx := gapB_eq K
      go_wp2_with (at_builtin; refine Stop.of ?_)
      refine ⟨append_bytes (m := [gapB K]) (hO.out.alloc _) (byte_src wr (gapB K) rfl) (by rw [List.length_append, gaps_length]; simp only [List.length_cons, List.length_nil]; omega) (by have := hB.out.size; simp; omega) rfl rfl rfl rfl ?_⟩
      intro v2 w2 ho hg _
      rw [gaps_snoc] at ho
      have HO := Lib.hid ho
      have HB := Lib.hid (below_grown (hB.out.alloc hB.out.size _) (hO.out.alloc _) hg)
      clear ho hg hO hB hx
      go_wp2
      exact ⟨⟨K + 1, by go_num, by omega, HO, HB⟩, by simp [intOf]; omega⟩
    · obtain rfl : K = 70 := by omega
      go_wp2
      go_ret
      exact ⟨_, rfl, hO.out, hB.out⟩
set_option maxRecDepth 100000 in
theorem stays_any {w : World} {c c' : Nat} {A A' : Option Addr} {l b : List UInt8} (hr : BReads w w.heap.size A l) (hb : BReads w w.heap.size A' b) (hl : b.length ≤ 100000000) (hlb : l = b ++ gaps 70) :
    Calls Try.prog 33 #[.slice A l.length c, .slice A' b.length c'] w fun e w' => e = .returned (.bool true) ∧ Below w.heap.size w w' := by
  have hll : l.length = b.length + 70 := by rw [hlb, List.length_append, gaps_length]
  have HR := Lib.hid hr
  have HL := Lib.hid hlb
  have HB := Lib.hid hb
  have HLL := Lib.hid hll
  have hle : l.length ≤ 100000070 := by omega
  clear hr hlb hb hll
  go_enter Try.func33, Try.ntmps33
  go_wp2
  go_loopw [5] (fun i wr => ∃ K : Nat, i = .int .i64 K ∧ K ≤ l.length ∧ Hid (Below w.heap.size w wr)) (fun i _ => l.length - (intOf i).toNat)
  case atStart => exact ⟨0, rfl, by omega, Lib.hid (Below.refl _ _)⟩
  case round =>
    obtain ⟨K, rfl, hK, hBW⟩ := hrel
    by_cases hlt : (K : Int) < l.length
    · have hKl : K < l.length := by omega
      obtain ⟨g, off, rfl, _, hc⟩ := (HR.out.below hBW.out).at_ hKl
      by_cases hKb : (K : Int) < b.length
      · have hKb' : K < b.length := by omega
        obtain ⟨g', off', rfl, _, hc'⟩ := (HB.out.below hBW.out).at_ hKb'
        have he : l[K] = b[K] := by
          have := HL.out; subst this
          rw [List.getElem_append_left hKb']
        rw [he] at hc
        obtain ⟨x, hx⟩ : ∃ x, x = b[K] := ⟨_, rfl⟩
        rw [← hx] at hc hc'
        clear hx he
        have d0 : decide (K < b.length) = true := decide_eq_true (by omega)
        have d1 : decide (b.length ≤ K) = false := decide_eq_false (by omega)
        go_wp2
        go_quiet (fail)
        have HBW := Lib.hid (below_drewN hBW.out nq)
        clear hBW
        go_wp2
        exact ⟨⟨K + 1, by go_num, by omega, HBW⟩, by simp [intOf]; omega⟩
      · have hKb' : b.length ≤ K := by omega
        obtain ⟨q, hq⟩ : ∃ q : Nat, K = b.length + q := ⟨K - b.length, by omega⟩
        have he : l[K] = gapB q := by
          have := HL.out; subst this
          rw [gaps_at _ hKb']; congr 1; omega
        rw [he] at hc
        have hx := gapB_eq q
        obtain ⟨x, hx2⟩ : ∃ x, x = gapB q := ⟨_, rfl⟩
        rw [← hx2] at hc hx
        have hs : (K : Int) - (b.length : Int) = (q : Int) := by omega
        have hq70 : q < 70 := by have := HLL.out; omega
        have HQ := Lib.hid hq
        clear he hx2 hq
        have d0 : decide (K < b.length) = false := decide_eq_false (by omega)
        have d1 : decide (b.length ≤ K) = true := decide_eq_true (by omega)
        go_wp2
        go_quiet (fail)
        have HBW := Lib.hid (below_drewN hBW.out nq)
        clear hBW
        go_wp2
        exact ⟨⟨K + 1, by go_num, by omega, HBW⟩, by simp [intOf]; omega⟩
    · go_wp2
      go_ret
      have hfin := HLL.out
      exact ⟨by simp [hfin], hBW.out⟩
set_option maxRecDepth 100000 in
theorem spoil_any {w : World} {base n c : Nat} {A : Option Addr} {l : List UInt8} (m : UInt8) {o : Int} (ho : o = (m.toNat : Int)) (hown : BOwns w base (.slice A n c) l) (hb : base ≤ w.heap.size) (hl : l.length ≤ 100000000) :
    Calls Try.prog 34 #[.slice A n c, .int .u8 o] w fun e w' => e = .returned (.tuple #[]) ∧ Keeps (fun k => some k = (Value.slice A n c).ownBlock) w w' := by
  subst ho
  have hn := bowns_len hown
  subst hn
  have HB := Lib.hid hb
  have HO0 := Lib.hid hown
  clear hown hb
  go_enter Try.func34, Try.ntmps34
  go_wp2
  go_loopw [4] (fun i wr => ∃ I : Nat, i = .int .i64 I ∧ I ≤ l.length ∧ Hid (BOwns wr base (.slice A l.length c) (fillL m I l)) ∧ Hid (Keeps (fun k => some k = (Value.slice A l.length c).ownBlock) w wr)) (fun i _ => l.length - (intOf i).toNat)
  case atStart => exact ⟨0, rfl, by omega, HO0, Lib.hid (Keeps.refl _ _)⟩
  case round =>
    obtain ⟨I, rfl, hI, hO, hK⟩ := hrel
    by_cases hlt : (I : Int) < l.length
    · obtain ⟨gx, ux, hAx, f1, c1, HO, HK⟩ := fill_step (m := (m.toNat : Int)) hO.out (by omega) rfl hK.out
      subst hAx
      clear hO hK
      go_wp2
      exact ⟨⟨I + 1, by go_num, by omega, HO, HK⟩, by simp [intOf]; omega⟩
    · obtain ⟨w1, hw1⟩ : ∃ x, x = wr := ⟨_, rfl⟩
      rw [← hw1] at hO hK ⊢
      obtain ⟨L, hL⟩ : ∃ L, L = fillL m I l := ⟨_, rfl⟩
      have hLl : L.length = l.length := by rw [hL, fillL_length (by omega)]
      rw [← hL] at hO
      have HG := Lib.hid (Grows.start hO.out (Nat.le_trans HB.out hK.out.size))
      have HLn := Lib.hid hLl
      clear hw1 hL hO
      go_wp2
      go_loopw [0, 5] (fun v i wr => ∃ (I : Nat) (L' : List UInt8), i = .int .i64 I ∧ I ≤ 70 ∧ Hid (L'.length = l.length + I) ∧ Hid (Grows w1 wr base (Value.slice A l.length c).ownBlock v L')) (fun _ i _ => 70 - (intOf i).toNat)
      case atStart => exact ⟨0, L, rfl, by omega, Lib.hid (by rw [HLn.out]; rfl), HG⟩
      case round =>
        obtain ⟨I, L', rfl, hI, hL', hG⟩ := hrel
        by_cases hlt : (I : Int) < 70
        · obtain ⟨y, hy⟩ : ∃ y : UInt8, ((m.toNat : Int) + 1) % 256 = (y.toNat : Int) := ⟨UInt8.ofNat ((m.toNat + 1) % 256), by rw [u8_int _ (by omega)]; omega⟩
          have hy2 : IntKind.u8.wrap ((m.toNat : Int) + 1) = (y.toNat : Int) := by rw [IntKind.wrap_u8]; exact hy
          go_wp2_with (at_builtin; refine Stop.of ?_)
          refine ⟨append_bytes (m := [y]) (hG.out.own.alloc _) (byte_src wr y rfl) (by have := hL'.out; simp only [List.length_cons, List.length_nil]; omega) (by have := hG.out.le; have := hG.out.grown.size; simp; omega) rfl rfl rfl rfl ?_⟩
          intro v2 w2 ho hg hf
          have HG2 := Lib.hid (hG.out.step ho hg hf)
          have HL2 := Lib.hid (show (L' ++ [y]).length = l.length + (I + 1) from by rw [List.length_append, hL'.out]; rfl)
          clear ho hg hf hG hL' hy hy2
          go_wp2
          exact ⟨⟨I + 1, L' ++ [y], by go_num, by omega, HL2, HG2⟩, by simp [intOf]; omega⟩
        · have HK2 := Lib.hid (hK.out.trans hG.out.keeps (fun i hi => .inl hi))
          go_wp2
          refine bodyPost_end (results_none rfl _ _ _) rfl ?_
          exact ⟨rfl, HK2.out⟩
end Go.Proofs.Ytnnladfndmdapaa
