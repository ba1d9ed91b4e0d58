/- Contracts and plain laws that this claim leans on, laid together: Sum1, Sum2, Rdr6, Rdr7. -/
import Derived.Test.YtnnladfndmdapaaG03
import Derived.Laws.BitsAllLaws
import Derived.Deep.Cut
import Derived.Deep.LoopGhost
import Derived.Deep.RegionHeld3
set_option linter.all false
set_option linter.unusedVariables false
set_option linter.unusedSimpArgs false
set_option linter.unnecessarySimpa false
/- The sum of bytes, by contract: steps, More, Of. -/
namespace Go.Proofs.Ytnnladfndmdapaa
open Go.RowKit

/-- One step of the register, and so many of them. -/
def stepF (r : Nat) : Nat := if r % 2 = 1 then (r / 2) ^^^ 3988292384 else r / 2
def stepsF : Nat → Nat → Nat
  | 0, r => r
  | m + 1, r => stepF (stepsF m r)
theorem stepF_lt {r : Nat} (h : r < 4294967296) : stepF r < 4294967296 := by
  unfold stepF
  split
  · exact Nat.xor_lt_two_pow (n := 32) (by omega) (by omega)
  · omega
theorem stepsF_lt {r : Nat} (h : r < 4294967296) (m : Nat) : stepsF m r < 4294967296 := by
  induction m with
  | zero => exact h
  | succ m ih => exact stepF_lt ih
def tabF (i : Nat) : Nat := stepsF 4 i
/-- The table, filled up to a place. -/
def tabV (K : Nat) : Array Value := ((List.range 16).map fun j => Value.int .u32 ((if j < K then tabF j else 0 : Nat) : Int)).toArray
theorem tabV_zero : tabV 0 = #[.int .u32 0, .int .u32 0, .int .u32 0, .int .u32 0, .int .u32 0, .int .u32 0, .int .u32 0, .int .u32 0, .int .u32 0, .int .u32 0, .int .u32 0, .int .u32 0, .int .u32 0, .int .u32 0, .int .u32 0, .int .u32 0] := rfl
theorem tabN : (List.range 16).map tabF = [0, 498536548, 997073096, 651767980, 1994146192, 1802195444, 1303535960, 1342533948, 3988292384, 4027552580, 3604390888, 3412177804, 2607071920, 2262029012, 2685067896, 3183342108] := by decide +kernel
theorem tabV_full : tabV 16 = #[.int .u32 0, .int .u32 498536548, .int .u32 997073096, .int .u32 651767980, .int .u32 1994146192, .int .u32 1802195444, .int .u32 1303535960, .int .u32 1342533948, .int .u32 3988292384, .int .u32 4027552580, .int .u32 3604390888, .int .u32 3412177804, .int .u32 2607071920, .int .u32 2262029012, .int .u32 2685067896, .int .u32 3183342108] := by
  have h : tabV 16 = (((List.range 16).map tabF).map fun n : Nat => Value.int .u32 (n : Int)).toArray := by
    unfold tabV
    rw [List.map_map]
    refine congrArg List.toArray (List.map_congr_left fun j hj => ?_)
    rw [List.mem_range] at hj
    simp only [Function.comp, if_pos hj]
  rw [h, tabN]; rfl
theorem tabV_set {K : Nat} (h : K < 16) : (tabV K).setIfInBounds K (.int .u32 ((tabF K : Nat) : Int)) = tabV (K + 1) := by
  apply Array.ext'
  unfold tabV
  rw [Array.toList_setIfInBounds]
  apply List.ext_getElem
  · simp
  · intro i h1 h2
    simp only [List.getElem_set, List.getElem_map, List.getElem_range]
    by_cases e : K = i
    · subst e; rw [if_pos rfl, if_pos (by omega)]
    · rw [if_neg e]
      by_cases e2 : i < K
      · rw [if_pos e2, if_pos (by omega)]
      · rw [if_neg e2, if_neg (by omega)]
theorem and1_u32 (r : Nat) (h : r < 4294967296) : bits .and .u32 (r : Int) 1 = ((r % 2 : Nat) : Int) := by
  rw [show (1 : Int) = ((1 : Nat) : Int) from rfl, u32_and_nat _ _ h (by omega), nat_mask1]
theorem xor_poly (r : Nat) (h : r < 4294967296) : bits .xor .u32 (r : Int) 3988292384 = ((r ^^^ 3988292384 : Nat) : Int) := by
  rw [show (3988292384 : Int) = ((3988292384 : Nat) : Int) from rfl, u32_xor_nat _ _ h (by omega)]
set_option maxRecDepth 100000 in
set_option maxHeartbeats 1600000 in
theorem steps_any {w : World} : Calls Try.prog 121 #[] w fun e w' => e = .returned (.agg (tabV 16)) ∧ Below w.heap.size w w' := by
  have K1 := Lib.hid (Blk.new (w.alloc (.cells #[.int .u32 0, .int .u32 0, .int .u32 0, .int .u32 0, .int .u32 0, .int .u32 0, .int .u32 0, .int .u32 0, .int .u32 0, .int .u32 0, .int .u32 0, .int .u32 0, .int .u32 0, .int .u32 0, .int .u32 0, .int .u32 0] 152)) 152 #[.int .u32 0, .int .u32 0, .int .u32 0, .int .u32 0, .int .u32 0, .int .u32 0, .int .u32 0, .int .u32 0, .int .u32 0, .int .u32 0, .int .u32 0, .int .u32 0, .int .u32 0, .int .u32 0, .int .u32 0, .int .u32 0])
  have K0 := Lib.hid ((Blk.new w 152 #[.int .u32 0, .int .u32 0, .int .u32 0, .int .u32 0, .int .u32 0, .int .u32 0, .int .u32 0, .int .u32 0, .int .u32 0, .int .u32 0, .int .u32 0, .int .u32 0, .int .u32 0, .int .u32 0, .int .u32 0, .int .u32 0]).alloc (.cells #[.int .u32 0, .int .u32 0, .int .u32 0, .int .u32 0, .int .u32 0, .int .u32 0, .int .u32 0, .int .u32 0, .int .u32 0, .int .u32 0, .int .u32 0, .int .u32 0, .int .u32 0, .int .u32 0, .int .u32 0, .int .u32 0] 152))
  have B1 := Lib.hid (((Below.refl w.heap.size w).alloc (Nat.le_refl _) (.cells #[.int .u32 0, .int .u32 0, .int .u32 0, .int .u32 0, .int .u32 0, .int .u32 0, .int .u32 0, .int .u32 0, .int .u32 0, .int .u32 0, .int .u32 0, .int .u32 0, .int .u32 0, .int .u32 0, .int .u32 0, .int .u32 0] 152)).alloc (by simp) (.cells #[.int .u32 0, .int .u32 0, .int .u32 0, .int .u32 0, .int .u32 0, .int .u32 0, .int .u32 0, .int .u32 0, .int .u32 0, .int .u32 0, .int .u32 0, .int .u32 0, .int .u32 0, .int .u32 0, .int .u32 0, .int .u32 0] 152))
  go_enter Try.func121, Try.ntmps121
  go_upto_region 2 with fail
  obtain ⟨W, hW⟩ : ∃ x, x = (w.alloc (.cells #[.int .u32 0, .int .u32 0, .int .u32 0, .int .u32 0, .int .u32 0, .int .u32 0, .int .u32 0, .int .u32 0, .int .u32 0, .int .u32 0, .int .u32 0, .int .u32 0, .int .u32 0, .int .u32 0, .int .u32 0, .int .u32 0] 152)).alloc (.cells #[.int .u32 0, .int .u32 0, .int .u32 0, .int .u32 0, .int .u32 0, .int .u32 0, .int .u32 0, .int .u32 0, .int .u32 0, .int .u32 0, .int .u32 0, .int .u32 0, .int .u32 0, .int .u32 0, .int .u32 0, .int .u32 0] 152) := ⟨_, rfl⟩
  obtain ⟨g, hg⟩ : ∃ x, x = w.heap.size + 1 := ⟨_, rfl⟩
  obtain ⟨g0, hg0⟩ : ∃ x, x = w.heap.size := ⟨_, rfl⟩
  rw [show (w.alloc (.cells #[.int .u32 0, .int .u32 0, .int .u32 0, .int .u32 0, .int .u32 0, .int .u32 0, .int .u32 0, .int .u32 0, .int .u32 0, .int .u32 0, .int .u32 0, .int .u32 0, .int .u32 0, .int .u32 0, .int .u32 0, .int .u32 0] 152)).heap.size = w.heap.size + 1 from by simp, ← tabV_zero] at K1
  rw [tabV_zero] at K1
  rw [← hW] at K1 K0 B1 ⊢
  rw [← hg] at K1 ⊢
  rw [← hg0] at K0 ⊢
  rw [← tabV_zero] at K1
  have HG0 := Lib.hid (show w.heap.size ≤ g0 from by omega)
  have HG := Lib.hid (show g0 < g from by omega)
  clear hW hg hg0
  go_wp2
  go_loopw [5] (fun i wr => ∃ K : Nat, i = .int .i64 K ∧ K ≤ 16 ∧ Hid (Blk wr g 152 (tabV K)) ∧ Hid (Blk wr g0 152 #[.int .u32 0, .int .u32 0, .int .u32 0, .int .u32 0, .int .u32 0, .int .u32 0, .int .u32 0, .int .u32 0, .int .u32 0, .int .u32 0, .int .u32 0, .int .u32 0, .int .u32 0, .int .u32 0, .int .u32 0, .int .u32 0]) ∧ Hid (Below w.heap.size w wr)) (fun i _ => 16 - (intOf i).toNat)
  case atStart => exact ⟨0, rfl, by omega, K1, K0, B1⟩
  case round =>
    obtain ⟨K, rfl, hK, hB1, hB0, hBel⟩ := hrel
    clear K1 K0 B1
    by_cases hlt : (K : Int) < 16
    · have Ew : IntKind.u32.wrap (K : Int) = (K : Int) := by simp [IntKind.wrap, IntKind.bits, IntKind.signed]; omega
      go_wp2
      go_loop [3, 10] (fun r j => ∃ m R : Nat, j = .int .i64 m ∧ m ≤ 4 ∧ r = .int .u32 R ∧ Hid (R = stepsF m K)) (fun _ j => 4 - (intOf j).toNat)
      case atStart => exact ⟨0, K, rfl, by omega, rfl, Lib.hid rfl⟩
      case round =>
        obtain ⟨m, R, rfl, hm, rfl, hR⟩ := hrel
        have hR32 : R < 4294967296 := by rw [hR.out]; exact stepsF_lt (by omega) m
        by_cases hmlt : (m : Int) < 4
        · have Eand := and1_u32 R hR32
          obtain ⟨q, hq⟩ : ∃ q, q = R / 2 := ⟨_, rfl⟩
          have Ehalf : (R : Int) / 2 = (q : Int) := by omega
          have hm1 : m + 1 ≤ 4 := by omega
          have Exor := xor_poly q (by omega)
          rcases (show R % 2 = 0 ∨ R % 2 = 1 from by omega) with h0 | h0
          · have HR2 := Lib.hid (show q = stepsF (m + 1) K from by rw [stepsF, ← hR.out]; unfold stepF; rw [if_neg (by omega), hq])
            rw [h0] at Eand
            clear hq h0 hR hR32 Exor
            go_wp2
            exact ⟨⟨m + 1, q, by go_num, hm1, rfl, HR2⟩, by simp [intOf]; omega⟩
          · obtain ⟨y, hy⟩ : ∃ y, y = q ^^^ 3988292384 := ⟨_, rfl⟩
            have HR2 := Lib.hid (show y = stepsF (m + 1) K from by rw [stepsF, ← hR.out]; unfold stepF; rw [if_pos h0, ← hq, hy])
            rw [h0] at Eand
            rw [← hy] at Exor
            clear hq h0 hR hR32 hy
            go_wp2
            exact ⟨⟨m + 1, y, by go_num, hm1, rfl, HR2⟩, by simp [intOf]; omega⟩
        · obtain rfl : m = 4 := by omega
          have hKN : K < 16 := by omega
          have HB2 := Lib.hid (show Blk (wr.setCell ⟨g, K, none⟩ (.int .u32 (R : Int))) g 152 (tabV (K + 1)) from by rw [hR.out]; show Blk (wr.setCell ⟨g, K, none⟩ (.int .u32 ((tabF K : Nat) : Int))) _ _ _; rw [← tabV_set hKN]; exact hB1.out.set_ K _)
          have HB02 := Lib.hid (hB0.out.far (p := ⟨g, K, none⟩) (by have := HG.out; show ¬ g0 = g; omega) (.int .u32 (R : Int)))
          have HBel2 := Lib.hid (hBel.out.setCell (p := ⟨g, K, none⟩) (by have := HG.out; have := HG0.out; show w.heap.size ≤ g; omega) (.int .u32 (R : Int)))
          have f := hB1.out.frozen K
          have hc : ∃ u, wr.cell? ⟨g, K, none⟩ = some u := ⟨_, (hB1.out.cell K).trans (Array.getElem?_eq_getElem (by unfold tabV; simp; omega))⟩
          obtain ⟨u, hc⟩ := hc
          have hK1 : K + 1 ≤ 16 := by omega
          clear hR hR32 hB1 hB0 hBel
          go_wp2
          exact ⟨⟨K + 1, by go_num, hK1, HB2, HB02, HBel2⟩, by simp [intOf]; omega⟩
    · obtain rfl : K = 16 := by omega
      have K16 := Lib.hid (show Blk wr g 152 #[.int .u32 0, .int .u32 498536548, .int .u32 997073096, .int .u32 651767980, .int .u32 1994146192, .int .u32 1802195444, .int .u32 1303535960, .int .u32 1342533948, .int .u32 3988292384, .int .u32 4027552580, .int .u32 3604390888, .int .u32 3412177804, .int .u32 2607071920, .int .u32 2262029012, .int .u32 2685067896, .int .u32 3183342108] from by rw [← tabV_full]; exact hB1.out)
      have e0 := hB0.out.set_ 0 (.int .u32 0)
      have e1 := e0.set_ 1 (.int .u32 498536548)
      have e2 := e1.set_ 2 (.int .u32 997073096)
      have e3 := e2.set_ 3 (.int .u32 651767980)
      have e4 := e3.set_ 4 (.int .u32 1994146192)
      have e5 := e4.set_ 5 (.int .u32 1802195444)
      have e6 := e5.set_ 6 (.int .u32 1303535960)
      have e7 := e6.set_ 7 (.int .u32 1342533948)
      have e8 := e7.set_ 8 (.int .u32 3988292384)
      have e9 := e8.set_ 9 (.int .u32 4027552580)
      have e10 := e9.set_ 10 (.int .u32 3604390888)
      have e11 := e10.set_ 11 (.int .u32 3412177804)
      have e12 := e11.set_ 12 (.int .u32 2607071920)
      have e13 := e12.set_ 13 (.int .u32 2262029012)
      have e14 := e13.set_ 14 (.int .u32 2685067896)
      have e15 := e14.set_ 15 (.int .u32 3183342108)
      obtain ⟨wf, hwf⟩ : ∃ x, x = ((((((((((((((((wr.setCell ⟨g0, 0, none⟩ (.int .u32 0)).setCell ⟨g0, 1, none⟩ (.int .u32 498536548)).setCell ⟨g0, 2, none⟩ (.int .u32 997073096)).setCell ⟨g0, 3, none⟩ (.int .u32 651767980)).setCell ⟨g0, 4, none⟩ (.int .u32 1994146192)).setCell ⟨g0, 5, none⟩ (.int .u32 1802195444)).setCell ⟨g0, 6, none⟩ (.int .u32 1303535960)).setCell ⟨g0, 7, none⟩ (.int .u32 1342533948)).setCell ⟨g0, 8, none⟩ (.int .u32 3988292384)).setCell ⟨g0, 9, none⟩ (.int .u32 4027552580)).setCell ⟨g0, 10, none⟩ (.int .u32 3604390888)).setCell ⟨g0, 11, none⟩ (.int .u32 3412177804)).setCell ⟨g0, 12, none⟩ (.int .u32 2607071920)).setCell ⟨g0, 13, none⟩ (.int .u32 2262029012)).setCell ⟨g0, 14, none⟩ (.int .u32 2685067896)).setCell ⟨g0, 15, none⟩ (.int .u32 3183342108)) := ⟨_, rfl⟩
      rw [← hwf] at e15
      have E15 := Lib.hid (show Blk wf g0 152 #[.int .u32 0, .int .u32 498536548, .int .u32 997073096, .int .u32 651767980, .int .u32 1994146192, .int .u32 1802195444, .int .u32 1303535960, .int .u32 1342533948, .int .u32 3988292384, .int .u32 4027552580, .int .u32 3604390888, .int .u32 3412177804, .int .u32 2607071920, .int .u32 2262029012, .int .u32 2685067896, .int .u32 3183342108] from by simpa using e15)
      have BF := Lib.hid (show Below w.heap.size w wf from by
        rw [hwf]
        exact ((((((((((((((((hBel.out.setCell (p := ⟨g0, 0, none⟩) HG0.out _).setCell (p := ⟨g0, 1, none⟩) HG0.out _).setCell (p := ⟨g0, 2, none⟩) HG0.out _).setCell (p := ⟨g0, 3, none⟩) HG0.out _).setCell (p := ⟨g0, 4, none⟩) HG0.out _).setCell (p := ⟨g0, 5, none⟩) HG0.out _).setCell (p := ⟨g0, 6, none⟩) HG0.out _).setCell (p := ⟨g0, 7, none⟩) HG0.out _).setCell (p := ⟨g0, 8, none⟩) HG0.out _).setCell (p := ⟨g0, 9, none⟩) HG0.out _).setCell (p := ⟨g0, 10, none⟩) HG0.out _).setCell (p := ⟨g0, 11, none⟩) HG0.out _).setCell (p := ⟨g0, 12, none⟩) HG0.out _).setCell (p := ⟨g0, 13, none⟩) HG0.out _).setCell (p := ⟨g0, 14, none⟩) HG0.out _).setCell (p := ⟨g0, 15, none⟩) HG0.out _))
      have HWF := Lib.hid hwf
      clear e0 e1 e2 e3 e4 e5 e6 e7 e8 e9 e10 e11 e12 e13 e14 e15 hwf hBel hB1
      have q0 := K16.out.cell 0
      have z0 := hB0.out.cell 0
      have f0 := hB0.out.frozen 0
      have q1 := K16.out.cell 1
      have z1 := hB0.out.cell 1
      have f1 := hB0.out.frozen 1
      have q2 := K16.out.cell 2
      have z2 := hB0.out.cell 2
      have f2 := hB0.out.frozen 2
      have q3 := K16.out.cell 3
      have z3 := hB0.out.cell 3
      have f3 := hB0.out.frozen 3
      have q4 := K16.out.cell 4
      have z4 := hB0.out.cell 4
      have f4 := hB0.out.frozen 4
      have q5 := K16.out.cell 5
      have z5 := hB0.out.cell 5
      have f5 := hB0.out.frozen 5
      have q6 := K16.out.cell 6
      have z6 := hB0.out.cell 6
      have f6 := hB0.out.frozen 6
      have q7 := K16.out.cell 7
      have z7 := hB0.out.cell 7
      have f7 := hB0.out.frozen 7
      have q8 := K16.out.cell 8
      have z8 := hB0.out.cell 8
      have f8 := hB0.out.frozen 8
      have q9 := K16.out.cell 9
      have z9 := hB0.out.cell 9
      have f9 := hB0.out.frozen 9
      have q10 := K16.out.cell 10
      have z10 := hB0.out.cell 10
      have f10 := hB0.out.frozen 10
      have q11 := K16.out.cell 11
      have z11 := hB0.out.cell 11
      have f11 := hB0.out.frozen 11
      have q12 := K16.out.cell 12
      have z12 := hB0.out.cell 12
      have f12 := hB0.out.frozen 12
      have q13 := K16.out.cell 13
      have z13 := hB0.out.cell 13
      have f13 := hB0.out.frozen 13
      have q14 := K16.out.cell 14
      have z14 := hB0.out.cell 14
      have f14 := hB0.out.frozen 14
      have q15 := K16.out.cell 15
      have z15 := hB0.out.cell 15
      have f15 := hB0.out.frozen 15
      simp only [List.getElem?_toArray, List.getElem?_cons_zero, List.getElem?_cons_succ] at q0 z0 q1 z1 q2 z2 q3 z3 q4 z4 q5 z5 q6 z6 q7 z7 q8 z8 q9 z9 q10 z10 q11 z11 q12 z12 q13 z13 q14 z14 q15 z15
      go_wp2
      rw [← HWF.out]
      have y0 := E15.out.cell 0
      have y1 := E15.out.cell 1
      have y2 := E15.out.cell 2
      have y3 := E15.out.cell 3
      have y4 := E15.out.cell 4
      have y5 := E15.out.cell 5
      have y6 := E15.out.cell 6
      have y7 := E15.out.cell 7
      have y8 := E15.out.cell 8
      have y9 := E15.out.cell 9
      have y10 := E15.out.cell 10
      have y11 := E15.out.cell 11
      have y12 := E15.out.cell 12
      have y13 := E15.out.cell 13
      have y14 := E15.out.cell 14
      have y15 := E15.out.cell 15
      simp only [List.getElem?_toArray, List.getElem?_cons_zero, List.getElem?_cons_succ] at y0 y1 y2 y3 y4 y5 y6 y7 y8 y9 y10 y11 y12 y13 y14 y15
      rw [tabV_full]
      exact bodyPost_ret (v := .agg #[.int .u32 0, .int .u32 498536548, .int .u32 997073096, .int .u32 651767980, .int .u32 1994146192, .int .u32 1802195444, .int .u32 1303535960, .int .u32 1342533948, .int .u32 3988292384, .int .u32 4027552580, .int .u32 3604390888, .int .u32 3412177804, .int .u32 2607071920, .int .u32 2262029012, .int .u32 2685067896, .int .u32 3183342108]) (by simp [results, Try.results121, go_sem, y0, y1, y2, y3, y4, y5, y6, y7, y8, y9, y10, y11, y12, y13, y14, y15]) rfl ⟨rfl, BF.out⟩
end Go.Proofs.Ytnnladfndmdapaa
/- The sum of bytes, by contract: More, Of. -/
namespace Go.Proofs.Ytnnladfndmdapaa
open Go.RowKit

/-- What the register comes to over half a byte, and over a byte. -/
def halfF (r : Nat) : Nat := (r / 16) ^^^ tabF (r % 16)
def regF (r : Nat) (x : UInt8) : Nat := halfF (halfF (r ^^^ x.toNat))
/-- The sum of bytes. -/
def sumF (b : List UInt8) : Nat := 4294967295 - b.foldl regF 4294967295
theorem tabF_lt {i : Nat} (h : i < 16) : tabF i < 4294967296 := stepsF_lt (by omega) 4
theorem halfF_lt {r : Nat} (h : r < 4294967296) : halfF r < 4294967296 := by
  unfold halfF
  exact Nat.xor_lt_two_pow (n := 32) (by omega) (tabF_lt (by omega))
theorem regF_lt {r : Nat} (h : r < 4294967296) (x : UInt8) : regF r x < 4294967296 := by
  unfold regF
  have := x.toNat_lt
  exact halfF_lt (halfF_lt (Nat.xor_lt_two_pow (n := 32) h (by omega)))
theorem foldl_lt (b : List UInt8) : ∀ {r : Nat}, r < 4294967296 → b.foldl regF r < 4294967296 := by
  induction b with
  | nil => intro r h; exact h
  | cons x b ih => intro r h; exact ih (regF_lt h x)
theorem sumF_lt (b : List UInt8) : sumF b < 4294967296 := by unfold sumF; omega
theorem fold_snoc {b : List UInt8} {K : Nat} (h : K < b.length) (r : Nat) : (b.take (K + 1)).foldl regF r = regF ((b.take K).foldl regF r) b[K] := by
  rw [List.take_succ_eq_append_getElem h, List.foldl_append]; rfl
theorem tab_cell {w : World} {g : Nat} (h : Blk w g 152 (tabV 16)) {j : Nat} (hj : j < 16) : w.cell? ⟨g, j, none⟩ = some (.int .u32 ((tabF j : Nat) : Int)) := by
  rw [h.cell j]
  unfold tabV
  rw [List.getElem?_toArray, List.getElem?_map, List.getElem?_range hj]
  simp only [Option.map_some, if_pos hj]
theorem mask15 (r : Nat) (h : r < 4294967296) : bits .and .u32 (r : Int) 15 = ((r % 16 : Nat) : Int) := by
  rw [show (15 : Int) = ((15 : Nat) : Int) from rfl, u32_and_nat _ _ h (by omega)]
  congr 1
  exact Nat.and_two_pow_sub_one_eq_mod r 4
theorem u32_ones0 (b : Nat) (hb : b < 2 ^ 32) : (2 ^ 32 - 1) ^^^ b = 2 ^ 32 - 1 - b := by
  apply Nat.eq_of_testBit_eq
  intro i
  rw [Nat.testBit_xor, Nat.testBit_two_pow_sub_one, show 2 ^ 32 - 1 - b = 2 ^ 32 - (b + 1) by omega, Nat.testBit_two_pow_sub_succ hb]
  by_cases hi : i < 32
  · simp [hi]
  · have : b.testBit i = false := Nat.testBit_lt_two_pow (Nat.lt_of_lt_of_le hb (Nat.pow_le_pow_right (by decide) (by omega)))
    simp [hi, this]
theorem not_u32 (r : Nat) (h : r < 4294967296) : bits .xor .u32 IntKind.u32.max (r : Int) = 4294967295 - (r : Int) := by
  rw [show IntKind.u32.max = ((4294967295 : Nat) : Int) from rfl, u32_xor_nat _ _ (by omega) h, show (4294967295 : Nat) = 2 ^ 32 - 1 from rfl, u32_ones0 r (by omega)]
  omega
set_option maxRecDepth 100000 in
set_option maxHeartbeats 1600000 in
theorem more_any {w : World} {B c : Nat} {A : Option Addr} {b : List UInt8} (hr : BReads w B A b) (hB : B ≤ w.heap.size) (hl : b.length ≤ 140737488355328) :
    Calls Try.prog 119 #[.int .u32 0, .slice A b.length c] w fun e w' => e = .returned (.int .u32 (sumF b)) ∧ Below w.heap.size w w' := by
  have H0 := Lib.hid hr
  have HB := Lib.hid hB
  clear hr hB
  go_enter Try.func119, Try.ntmps119
  go_wp2_with fail
  refine steps_any.mono ?_
  rintro e w1 ⟨rfl, hb⟩
  have R1 := Lib.hid ((H0.out.more HB.out).below hb)
  have K2 := Lib.hid (Blk.new w1 152 (tabV 16))
  have B2 := Lib.hid (hb.trans (((Below.refl w1.heap.size w1).alloc (Nat.le_refl _) (.cells (tabV 16) 152)).mono hb.size))
  have R2 := Lib.hid (R1.out.below (((Below.refl w1.heap.size w1).alloc (Nat.le_refl _) (.cells (tabV 16) 152)).mono hb.size))
  rw [tabV_full] at K2 B2 R2 ⊢
  clear hb
  go_upto_region 3 with fail
  obtain ⟨w2, hw2⟩ : ∃ x, x = w1.alloc (.cells #[.int .u32 0, .int .u32 498536548, .int .u32 997073096, .int .u32 651767980, .int .u32 1994146192, .int .u32 1802195444, .int .u32 1303535960, .int .u32 1342533948, .int .u32 3988292384, .int .u32 4027552580, .int .u32 3604390888, .int .u32 3412177804, .int .u32 2607071920, .int .u32 2262029012, .int .u32 2685067896, .int .u32 3183342108] 152) := ⟨_, rfl⟩
  obtain ⟨g, hg⟩ : ∃ x, x = w1.heap.size := ⟨_, rfl⟩
  rw [← hw2] at K2 B2 R2 ⊢
  rw [← hg] at K2 ⊢
  rw [← tabV_full] at K2
  clear hw2 hg R1
  go_wp2
  go_loop [6, 14] (fun r i => ∃ K R : Nat, i = .int .i64 K ∧ K ≤ b.length ∧ r = .int .u32 R ∧ Hid (R = (b.take K).foldl regF 4294967295)) (fun _ i => b.length - (intOf i).toNat)
  case atStart => exact ⟨0, 4294967295, rfl, by omega, rfl, Lib.hid rfl⟩
  case round =>
    obtain ⟨K, R, rfl, hK, rfl, hR⟩ := hrel
    have hR32 : R < 4294967296 := by rw [hR.out]; exact foldl_lt _ (by omega)
    by_cases hlt : (K : Int) < b.length
    · have hKN : K < b.length := by omega
      obtain ⟨bb, off, rfl, hbb, hc⟩ := R2.out.at_ hKN
      obtain ⟨x, hx⟩ : ∃ x, x = b[K] := ⟨_, rfl⟩
      have HS := Lib.hid (show (b.take (K + 1)).foldl regF 4294967295 = regF R x from by rw [fold_snoc hKN, hx, hR.out])
      rw [← hx] at hc
      have hx8 := x.toNat_lt
      obtain ⟨r1, hr1⟩ : ∃ r1, r1 = R ^^^ x.toNat := ⟨_, rfl⟩
      have h1 : r1 < 4294967296 := by rw [hr1]; exact Nat.xor_lt_two_pow (n := 32) hR32 (by omega)
      have E1 : bits .xor .u32 (R : Int) (x.toNat : Int) = (r1 : Int) := by rw [u32_xor_nat _ _ hR32 (by omega), hr1]
      have Ew : IntKind.u32.wrap (x.toNat : Int) = (x.toNat : Int) := by simp [IntKind.wrap, IntKind.bits, IntKind.signed]; omega
      obtain ⟨q1, hq1⟩ : ∃ q, q = r1 / 16 := ⟨_, rfl⟩
      obtain ⟨m1, hm1⟩ : ∃ q, q = r1 % 16 := ⟨_, rfl⟩
      have Em1 := mask15 r1 h1
      rw [← hm1] at Em1
      have Eq1 : (r1 : Int) / 16 = (q1 : Int) := by omega
      have hm16 : m1 < 16 := by omega
      have c1 := tab_cell K2.out hm16
      obtain ⟨t1, ht1⟩ : ∃ t, t = tabF m1 := ⟨_, rfl⟩
      have hl1 : t1 < 4294967296 := by rw [ht1]; exact tabF_lt hm16
      obtain ⟨r2, hr2⟩ : ∃ r, r = q1 ^^^ t1 := ⟨_, rfl⟩
      have h2 : r2 < 4294967296 := by rw [hr2]; exact Nat.xor_lt_two_pow (n := 32) (by omega) hl1
      have E2 : bits .xor .u32 (q1 : Int) (t1 : Int) = (r2 : Int) := by rw [u32_xor_nat _ _ (by omega) hl1, hr2]
      have HR2 := Lib.hid (show r2 = halfF r1 from by rw [hr2, ht1, hq1, hm1]; rfl)
      rw [← ht1] at c1
      obtain ⟨q2, hq2⟩ : ∃ q, q = r2 / 16 := ⟨_, rfl⟩
      obtain ⟨m2, hm2⟩ : ∃ q, q = r2 % 16 := ⟨_, rfl⟩
      have Em2 := mask15 r2 h2
      rw [← hm2] at Em2
      have Eq2 : (r2 : Int) / 16 = (q2 : Int) := by omega
      have hm26 : m2 < 16 := by omega
      have c2 := tab_cell K2.out hm26
      obtain ⟨t2, ht2⟩ : ∃ t, t = tabF m2 := ⟨_, rfl⟩
      have hl2 : t2 < 4294967296 := by rw [ht2]; exact tabF_lt hm26
      obtain ⟨r3, hr3⟩ : ∃ r, r = q2 ^^^ t2 := ⟨_, rfl⟩
      have E3 : bits .xor .u32 (q2 : Int) (t2 : Int) = (r3 : Int) := by rw [u32_xor_nat _ _ (by omega) hl2, hr3]
      have HR3 := Lib.hid (show r3 = regF R x from by unfold regF; rw [← hr1, ← HR2.out]; rw [hr3, ht2, hq2, hm2]; rfl)
      rw [← ht2] at c2
      have HN := Lib.hid (show r3 = (b.take (K + 1)).foldl regF 4294967295 from by rw [HS.out, HR3.out])
      have hK1 : K + 1 ≤ b.length := by omega
      have hm16i : (m1 : Int) < 16 := by omega
      have hm26i : (m2 : Int) < 16 := by omega
      clear hx HS hr1 hq1 hm1 ht1 hr2 HR2 hq2 hm2 ht2 hr3 HR3 hR hR32 h1 h2 hl1 hl2
      go_wp2
      exact ⟨⟨K + 1, r3, by go_num, hK1, rfl, HN⟩, by simp [intOf]; omega⟩
    · obtain rfl : K = b.length := by omega
      have HE := Lib.hid (show (sumF b : Int) = 4294967295 - (R : Int) from by unfold sumF; rw [hR.out, List.take_length] at hR32; rw [hR.out, List.take_length]; omega)
      clear hR
      go_wp2
      go_ret
      exact ⟨by rw [HE.out, ← not_u32 R hR32]; rfl, B2.out⟩
theorem of_any {w : World} {B c : Nat} {A : Option Addr} {b : List UInt8} (hr : BReads w B A b) (hB : B ≤ w.heap.size) (hl : b.length ≤ 140737488355328) :
    Calls Try.prog 109 #[.slice A b.length c] w fun e w' => e = .returned (.int .u32 (sumF b)) ∧ Below w.heap.size w w' := by
  have hm := more_any (c := c) hr hB hl
  clear hr
  go_enter Try.func109, Try.ntmps109
  go_wp2_with fail
  refine hm.mono ?_
  rintro e w1 ⟨rfl, hb⟩
  have HB := Lib.hid hb
  clear hb hm
  go_wp2
  go_ret
  exact ⟨rfl, HB.out⟩
end Go.Proofs.Ytnnladfndmdapaa
/- The reader's methods Int, Bytes, Text, Take: contracts against the plain reader (printed by a program of this claim's own). -/
namespace Go.Proofs.Ytnnladfndmdapaa
open Go.RowKit
set_option linter.unusedSimpArgs false

theorem enterInt (caps : Array Value) (w : World) : (callFunc 98 caps).run Try.prog w = .ok (.enter 98 caps) w :=
  callFunc_enter 98 Try.f98 _ Try.func98 rfl (by kernel_rfl) caps w
theorem rdInt_any {w : World} {g : Nat} {r : Rd} (h : RdIs w g r) (low : Int) (high : Int) :
    Calls Try.prog 68 #[.pointer (some ⟨g, 0, none⟩), .int .i64 low, .int .i64 high] w (RdPost w g (r.int low high) (AnsInt)) := by
  obtain ⟨A, c, HR⟩ := h
  have hmf : ∀ (fn : Fn) (first cap : Array Value) (w : World), (Instr.makeFunc fn first cap).run Try.prog w = .ok (.func fn first cap) w := fun _ _ _ _ => rfl
  have H := Lib.hid HR
  clear HR
  go_enter Try.func68, Try.ntmps68
  go_wp2_with fail
  obtain ⟨W1, hW1⟩ : ∃ x, x = w.alloc (.cells #[.pointer (some ⟨g, 0, none⟩)] 99) := ⟨_, rfl⟩
  obtain ⟨W2, hW2⟩ : ∃ x, x = W1.alloc (.cells #[.int .i64 low] 3) := ⟨_, rfl⟩
  obtain ⟨W3, hW3⟩ : ∃ x, x = W2.alloc (.cells #[.int .i64 high] 3) := ⟨_, rfl⟩
  obtain ⟨W4, hW4⟩ : ∃ x, x = W3.alloc (.cells #[.int .i64 0] 3) := ⟨_, rfl⟩
  have s1 : W1.heap.size = w.heap.size + 1 := by rw [hW1]; simp
  have s2 : W2.heap.size = w.heap.size + 1 + 1 := by rw [hW2]; simp; omega
  have s3 : W3.heap.size = w.heap.size + 1 + 1 + 1 := by rw [hW3]; simp; omega
  have Rn : RdAt W4 g A c r.l r.at_ r.f := by rw [hW4, hW3, hW2, hW1]; exact (((H.out.alloc _).alloc _).alloc _).alloc _
  have k1 : Blk W4 (w.heap.size) 99 #[.pointer (some ⟨g, 0, none⟩)] := by rw [hW4, hW3, hW2, hW1]; exact (((Blk.new _ _ _).alloc _).alloc _).alloc _
  have k2 : Blk W4 (w.heap.size + 1) 3 #[.int .i64 low] := by rw [← s1, hW4, hW3, hW2]; exact ((Blk.new _ _ _).alloc _).alloc _
  have k3 : Blk W4 (w.heap.size + 1 + 1) 3 #[.int .i64 high] := by rw [← s2, hW4, hW3]; exact (Blk.new _ _ _).alloc _
  have k4 : Blk W4 (w.heap.size + 1 + 1 + 1) 3 #[.int .i64 0] := by rw [← s3, hW4]; exact Blk.new _ _ _
  have Kn : Keeps (fun k => k = g) w W4 := by rw [hW4, hW3, hW2, hW1]; exact ((((Keeps.refl _ _).alloc _).alloc _).alloc _).alloc _
  have hszn : w.heap.size ≤ W4.heap.size := Kn.size
  have hg := H.out.blk.lt
  rw [← hW1, ← hW2, ← hW3, ← hW4]
  clear hW1 hW2 hW3 hW4 s1 s2 s3
  by_cases hf : r.f = 0
  · rw [hf] at Rn
    have HF := Lib.hid hf
    clear hf
    refine (reading_any Rn 98 _ (fun k => k = g ∨ k = w.heap.size + 1 + 1 + 1) (fun k hk => by have := k4.lt; rcases hk with rfl | rfl <;> omega) (.inl rfl) (enterInt _)
      (fun w2 => ∃ n k, numberF low high (r.l.drop r.at_) = .ok (n, k) ∧ Blk w2 (w.heap.size + 1 + 1 + 1) 3 #[.int .i64 n] ∧ RdAt w2 g A c r.l (r.at_ + k) 0)
      (fun m w2 => numberF low high (r.l.drop r.at_) = .error m ∧ Blk w2 (w.heap.size + 1 + 1 + 1) 3 #[.int .i64 0])
      (fun w1 hb => int1_any (Rn.below hb) (k1.below' hb) (k2.below' hb) (k3.below' hb) (k4.below' hb) (by omega))).mono ?_
    rintro e w5 ⟨rfl, hk, h⟩
    have K5 := Lib.hid (Kn.trans hk (fun i hi => hi.elim (fun h => .inl h) (fun h => .inr (by omega))))
    clear hk Rn k1 k2 k3 k4 Kn hszn
    rcases h with ⟨n, k, hn, hb, hr⟩ | ⟨m, w2, ⟨hn, hb⟩, hk2, rfl, at', hr⟩
    · have R5 := Lib.hid hr
      have HN := Lib.hid hn
      have c1 := hb.cell 0
      simp at c1
      clear hn hb hr
      go_wp2
      go_ret
      refine ⟨?_, ⟨A, c, ?_⟩, K5.out⟩ <;> (simp only [Rd.int, Rd.bytes, Rd.take, Rd.step, HF.out, HN.out, if_true])
      · rfl
      · exact R5.out
    · have R5 := Lib.hid (hr.faulted r.at_ H.out.le m)
      have HN := Lib.hid hn
      have c1 := ((hb.far (p := ⟨g, 1, none⟩) (by simp; omega) (.int .i64 r.at_)).far (p := ⟨g, 2, none⟩) (by simp; omega) (.int .i64 m)).cell 0
      simp only [List.getElem?_toArray, List.getElem?_cons_zero] at c1
      obtain ⟨w6, hw6⟩ : ∃ x, x = (w2.setCell ⟨g, 1, none⟩ (.int .i64 r.at_)).setCell ⟨g, 2, none⟩ (.int .i64 m) := ⟨_, rfl⟩
      rw [← hw6] at R5 c1 K5 ⊢
      clear hn hb hr hk2 hw6
      go_wp2
      go_ret
      refine ⟨?_, ⟨A, c, ?_⟩, K5.out⟩ <;> (simp only [Rd.int, Rd.bytes, Rd.take, Rd.step, HF.out, HN.out, if_true])
      · rfl
      · exact R5.out
  · refine (reading_fault Rn hf _).mono ?_
    rintro e w5 ⟨rfl, hb⟩
    have c1 := (k4.below' hb).cell 0
    simp at c1
    have R5 := Lib.hid (Rn.below hb)
    have K5 := Lib.hid (Kn.trans (Keeps.of_below hb (fun _ => False)) (fun _ h => h.elim))
    have HF := Lib.hid hf
    clear hb Rn k1 k2 k3 k4 Kn hf hszn
    go_wp2
    go_ret
    refine ⟨?_, ⟨A, c, ?_⟩, K5.out⟩ <;> (simp only [Rd.int, Rd.bytes, Rd.take, Rd.step, if_neg HF.out])
    · rfl
    · exact R5.out
theorem enterBytes (caps : Array Value) (w : World) : (callFunc 100 caps).run Try.prog w = .ok (.enter 100 caps) w :=
  callFunc_enter 100 Try.f100 _ Try.func100 rfl (by kernel_rfl) caps w
theorem rdBytes_any {w : World} {g : Nat} {r : Rd} (h : RdIs w g r) (most : Int) :
    Calls Try.prog 69 #[.pointer (some ⟨g, 0, none⟩), .int .i64 most] w (RdPost w g (r.bytes most) (AnsBytes w)) := by
  obtain ⟨A, c, HR⟩ := h
  have hmf : ∀ (fn : Fn) (first cap : Array Value) (w : World), (Instr.makeFunc fn first cap).run Try.prog w = .ok (.func fn first cap) w := fun _ _ _ _ => rfl
  have H := Lib.hid HR
  clear HR
  go_enter Try.func69, Try.ntmps69
  go_wp2_with fail
  obtain ⟨W1, hW1⟩ : ∃ x, x = w.alloc (.cells #[.pointer (some ⟨g, 0, none⟩)] 99) := ⟨_, rfl⟩
  obtain ⟨W2, hW2⟩ : ∃ x, x = W1.alloc (.cells #[.int .i64 most] 3) := ⟨_, rfl⟩
  obtain ⟨W3, hW3⟩ : ∃ x, x = W2.alloc (.cells #[.slice none 0 0] 23) := ⟨_, rfl⟩
  have s1 : W1.heap.size = w.heap.size + 1 := by rw [hW1]; simp
  have s2 : W2.heap.size = w.heap.size + 1 + 1 := by rw [hW2]; simp; omega
  have Rn : RdAt W3 g A c r.l r.at_ r.f := by rw [hW3, hW2, hW1]; exact ((H.out.alloc _).alloc _).alloc _
  have k1 : Blk W3 (w.heap.size) 99 #[.pointer (some ⟨g, 0, none⟩)] := by rw [hW3, hW2, hW1]; exact ((Blk.new _ _ _).alloc _).alloc _
  have k2 : Blk W3 (w.heap.size + 1) 3 #[.int .i64 most] := by rw [← s1, hW3, hW2]; exact (Blk.new _ _ _).alloc _
  have k3 : Blk W3 (w.heap.size + 1 + 1) 23 #[.slice none 0 0] := by rw [← s2, hW3]; exact Blk.new _ _ _
  have Kn : Keeps (fun k => k = g) w W3 := by rw [hW3, hW2, hW1]; exact (((Keeps.refl _ _).alloc _).alloc _).alloc _
  have hszn : w.heap.size ≤ W3.heap.size := Kn.size
  have hg := H.out.blk.lt
  rw [← hW1, ← hW2, ← hW3]
  clear hW1 hW2 hW3 s1 s2
  by_cases hf : r.f = 0
  · rw [hf] at Rn
    have HF := Lib.hid hf
    clear hf
    refine (reading_any Rn 100 _ (fun k => k = g ∨ k = w.heap.size + 1 + 1) (fun k hk => by have := k3.lt; rcases hk with rfl | rfl <;> omega) (.inl rfl) (enterBytes _)
      (fun w2 => ∃ n k, blockF most (r.l.drop r.at_) = .ok (n, k) ∧ (∃ v, Blk w2 (w.heap.size + 1 + 1) 23 #[v] ∧ BOwns w2 w.heap.size v n) ∧ RdAt w2 g A c r.l (r.at_ + k) 0)
      (fun m w2 => blockF most (r.l.drop r.at_) = .error m ∧ Blk w2 (w.heap.size + 1 + 1) 23 #[.slice none 0 0])
      (fun w1 hb => (bytes1_any (Rn.below hb) (k1.below' hb) (k2.below' hb) (k3.below' hb) (by omega)).mono (fun e w2 ⟨a, b⟩ => ⟨a, b.imp (fun ⟨x, n, k, y, ⟨v, z1, z2⟩, u⟩ => ⟨x, n, k, y, ⟨v, z1, owns_less z2 (Nat.le_trans hszn hb.size)⟩, u⟩) (fun x => x)⟩))).mono ?_
    rintro e w5 ⟨rfl, hk, h⟩
    have K5 := Lib.hid (Kn.trans hk (fun i hi => hi.elim (fun h => .inl h) (fun h => .inr (by omega))))
    clear hk Rn k1 k2 k3 Kn hszn
    rcases h with ⟨n, k, hn, ⟨v, hb, hown⟩, hr⟩ | ⟨m, w2, ⟨hn, hb⟩, hk2, rfl, at', hr⟩
    · have R5 := Lib.hid hr
      have HN := Lib.hid hn
      have c1 := hb.cell 0
      simp at c1
      have HO := Lib.hid hown
      clear hn hb hr hown
      go_wp2
      go_ret
      refine ⟨?_, ⟨A, c, ?_⟩, K5.out⟩ <;> (simp only [Rd.int, Rd.bytes, Rd.take, Rd.step, HF.out, HN.out, if_true])
      · exact ⟨_, rfl, HO.out⟩
      · exact R5.out
    · have R5 := Lib.hid (hr.faulted r.at_ H.out.le m)
      have HN := Lib.hid hn
      have c1 := ((hb.far (p := ⟨g, 1, none⟩) (by simp; omega) (.int .i64 r.at_)).far (p := ⟨g, 2, none⟩) (by simp; omega) (.int .i64 m)).cell 0
      simp only [List.getElem?_toArray, List.getElem?_cons_zero] at c1
      obtain ⟨w6, hw6⟩ : ∃ x, x = (w2.setCell ⟨g, 1, none⟩ (.int .i64 r.at_)).setCell ⟨g, 2, none⟩ (.int .i64 m) := ⟨_, rfl⟩
      rw [← hw6] at R5 c1 K5 ⊢
      clear hn hb hr hk2 hw6
      go_wp2
      go_ret
      refine ⟨?_, ⟨A, c, ?_⟩, K5.out⟩ <;> (simp only [Rd.int, Rd.bytes, Rd.take, Rd.step, HF.out, HN.out, if_true])
      · exact ⟨_, rfl, BOwns.nil _ _⟩
      · exact R5.out
  · refine (reading_fault Rn hf _).mono ?_
    rintro e w5 ⟨rfl, hb⟩
    have c1 := (k3.below' hb).cell 0
    simp at c1
    have R5 := Lib.hid (Rn.below hb)
    have K5 := Lib.hid (Kn.trans (Keeps.of_below hb (fun _ => False)) (fun _ h => h.elim))
    have HF := Lib.hid hf
    clear hb Rn k1 k2 k3 Kn hf hszn
    go_wp2
    go_ret
    refine ⟨?_, ⟨A, c, ?_⟩, K5.out⟩ <;> (simp only [Rd.int, Rd.bytes, Rd.take, Rd.step, if_neg HF.out])
    · exact ⟨_, rfl, BOwns.nil _ _⟩
    · exact R5.out
theorem enterText (caps : Array Value) (w : World) : (callFunc 96 caps).run Try.prog w = .ok (.enter 96 caps) w :=
  callFunc_enter 96 Try.f96 _ Try.func96 rfl (by kernel_rfl) caps w
theorem rdText_any {w : World} {g : Nat} {r : Rd} (h : RdIs w g r) (most : Int) :
    Calls Try.prog 67 #[.pointer (some ⟨g, 0, none⟩), .int .i64 most] w (RdPost w g (r.bytes most) (AnsText)) := by
  obtain ⟨A, c, HR⟩ := h
  have hmf : ∀ (fn : Fn) (first cap : Array Value) (w : World), (Instr.makeFunc fn first cap).run Try.prog w = .ok (.func fn first cap) w := fun _ _ _ _ => rfl
  have H := Lib.hid HR
  clear HR
  go_enter Try.func67, Try.ntmps67
  go_wp2_with fail
  obtain ⟨W1, hW1⟩ : ∃ x, x = w.alloc (.cells #[.pointer (some ⟨g, 0, none⟩)] 99) := ⟨_, rfl⟩
  obtain ⟨W2, hW2⟩ : ∃ x, x = W1.alloc (.cells #[.int .i64 most] 3) := ⟨_, rfl⟩
  obtain ⟨W3, hW3⟩ : ∃ x, x = W2.alloc (.cells #[.string ⟨#[]⟩] 9) := ⟨_, rfl⟩
  have s1 : W1.heap.size = w.heap.size + 1 := by rw [hW1]; simp
  have s2 : W2.heap.size = w.heap.size + 1 + 1 := by rw [hW2]; simp; omega
  have Rn : RdAt W3 g A c r.l r.at_ r.f := by rw [hW3, hW2, hW1]; exact ((H.out.alloc _).alloc _).alloc _
  have k1 : Blk W3 (w.heap.size) 99 #[.pointer (some ⟨g, 0, none⟩)] := by rw [hW3, hW2, hW1]; exact ((Blk.new _ _ _).alloc _).alloc _
  have k2 : Blk W3 (w.heap.size + 1) 3 #[.int .i64 most] := by rw [← s1, hW3, hW2]; exact (Blk.new _ _ _).alloc _
  have k3 : Blk W3 (w.heap.size + 1 + 1) 9 #[.string ⟨#[]⟩] := by rw [← s2, hW3]; exact Blk.new _ _ _
  have Kn : Keeps (fun k => k = g) w W3 := by rw [hW3, hW2, hW1]; exact (((Keeps.refl _ _).alloc _).alloc _).alloc _
  have hszn : w.heap.size ≤ W3.heap.size := Kn.size
  have hg := H.out.blk.lt
  rw [← hW1, ← hW2, ← hW3]
  clear hW1 hW2 hW3 s1 s2
  by_cases hf : r.f = 0
  · rw [hf] at Rn
    have HF := Lib.hid hf
    clear hf
    refine (reading_any Rn 96 _ (fun k => k = g ∨ k = w.heap.size + 1 + 1) (fun k hk => by have := k3.lt; rcases hk with rfl | rfl <;> omega) (.inl rfl) (enterText _)
      (fun w2 => ∃ n k, blockF most (r.l.drop r.at_) = .ok (n, k) ∧ Blk w2 (w.heap.size + 1 + 1) 9 #[.string ⟨n.toArray⟩] ∧ RdAt w2 g A c r.l (r.at_ + k) 0)
      (fun m w2 => blockF most (r.l.drop r.at_) = .error m ∧ Blk w2 (w.heap.size + 1 + 1) 9 #[.string ⟨#[]⟩])
      (fun w1 hb => text1_any (Rn.below hb) (k1.below' hb) (k2.below' hb) (k3.below' hb) (by omega))).mono ?_
    rintro e w5 ⟨rfl, hk, h⟩
    have K5 := Lib.hid (Kn.trans hk (fun i hi => hi.elim (fun h => .inl h) (fun h => .inr (by omega))))
    clear hk Rn k1 k2 k3 Kn hszn
    rcases h with ⟨n, k, hn, hb, hr⟩ | ⟨m, w2, ⟨hn, hb⟩, hk2, rfl, at', hr⟩
    · have R5 := Lib.hid hr
      have HN := Lib.hid hn
      have c1 := hb.cell 0
      simp at c1
      clear hn hb hr
      go_wp2
      go_ret
      refine ⟨?_, ⟨A, c, ?_⟩, K5.out⟩ <;> (simp only [Rd.int, Rd.bytes, Rd.take, Rd.step, HF.out, HN.out, if_true])
      · rfl
      · exact R5.out
    · have R5 := Lib.hid (hr.faulted r.at_ H.out.le m)
      have HN := Lib.hid hn
      have c1 := ((hb.far (p := ⟨g, 1, none⟩) (by simp; omega) (.int .i64 r.at_)).far (p := ⟨g, 2, none⟩) (by simp; omega) (.int .i64 m)).cell 0
      simp only [List.getElem?_toArray, List.getElem?_cons_zero] at c1
      obtain ⟨w6, hw6⟩ : ∃ x, x = (w2.setCell ⟨g, 1, none⟩ (.int .i64 r.at_)).setCell ⟨g, 2, none⟩ (.int .i64 m) := ⟨_, rfl⟩
      rw [← hw6] at R5 c1 K5 ⊢
      clear hn hb hr hk2 hw6
      go_wp2
      go_ret
      refine ⟨?_, ⟨A, c, ?_⟩, K5.out⟩ <;> (simp only [Rd.int, Rd.bytes, Rd.take, Rd.step, HF.out, HN.out, if_true])
      · rfl
      · exact R5.out
  · refine (reading_fault Rn hf _).mono ?_
    rintro e w5 ⟨rfl, hb⟩
    have c1 := (k3.below' hb).cell 0
    simp at c1
    have R5 := Lib.hid (Rn.below hb)
    have K5 := Lib.hid (Kn.trans (Keeps.of_below hb (fun _ => False)) (fun _ h => h.elim))
    have HF := Lib.hid hf
    clear hb Rn k1 k2 k3 Kn hf hszn
    go_wp2
    go_ret
    refine ⟨?_, ⟨A, c, ?_⟩, K5.out⟩ <;> (simp only [Rd.int, Rd.bytes, Rd.take, Rd.step, if_neg HF.out])
    · rfl
    · exact R5.out
end Go.Proofs.Ytnnladfndmdapaa
/- The reader's Take at every kind: contracts (printed by a program of this claim's own). -/
namespace Go.Proofs.Ytnnladfndmdapaa
open Go.RowKit
set_option linter.unusedSimpArgs false
theorem take81_any {w : World} {g br bv : Nat} {A : Option Addr} {c : Nat} {l : List UInt8} {at_ : Nat} (HR : RdAt w g A c l at_ 0)
    (h1 : Blk w br 99 #[.pointer (some ⟨g, 0, none⟩)]) (h4 : Blk w bv 135 #[.int .u64 0]) (hgn : g < bv) :
    Calls Try.prog 94 #[.pointer (some ⟨br, 0, none⟩), .pointer (some ⟨bv, 0, none⟩)] w fun e w2 => Keeps (fun k => k = g ∨ k = bv) w w2 ∧
      (e = .returned (.tuple #[]) ∧ (∃ n k, takeF 1 (l.drop at_) = .ok (n, k) ∧ Blk w2 bv 135 #[.int .u64 (n : Nat)] ∧ RdAt w2 g A c l (at_ + k) 0) ∨
        ∃ m, e = gaveUp m ∧ (takeF 1 (l.drop at_) = .error m ∧ Blk w2 bv 135 #[.int .u64 0]) ∧ ∃ at', RdAt w2 g A c l at' 0) := by
  have c1 := h1.cell 0
  simp at c1
  have H4 := Lib.hid h4
  have H := Lib.hid HR
  have HG := Lib.hid hgn
  clear HR h4 hgn
  by_cases hcut : (l.length : Int) - at_ < 1
  · have HN := Lib.hid (show takeF 1 (l.drop at_) = .error 20 from by unfold takeF; rw [if_pos (by rw [List.length_drop]; omega)])
    go_enter Try.func94, Try.ntmps94
    go_wp2_with fail
    refine wp_region_any (by kernel_rfl) ?_
    refine wpAny_take (i := 4) (v := .int .i64 0) rfl (by kernel_rfl) (by kernel_rfl) (by kernel_rfl) (fun _ _ _ h => h) (Or.inl ⟨by rfl, by intro w; go_simp⟩) ?_
    refine wpAny_ready (rs := [0, 1]) (by kernel_rfl) (by simp) ?_
    refine AllReady.cons rfl (fun K hK => ?_) (AllReady.cons rfl (fun K hK => ?_) AllReady.nil)
    · go_simp
      refine hK _ _ ?_
      clear hK K
      refine wpAny_ready (rs := [1]) (by kernel_rfl) (by simp) ?_
      refine AllReady.cons rfl (fun K hK => ?_) AllReady.nil
      go_simp
      refine width8_any.mono ?_
      rintro e w' ⟨rfl, rfl⟩
      refine hK _ _ ?_
      clear hK K
      refine wpAny_ready (rs := [2]) (by kernel_rfl) (by simp) ?_
      refine AllReady.cons rfl (fun K hK => ?_) AllReady.nil
      go_simp
      refine (take_cut H.out.drew 1 hcut).mono ?_
      rintro e w' ⟨rfl, m, rfl⟩
      exact ⟨rfl, ((Keeps.refl _ _).drewN 1).drewN _, .inr ⟨20, rfl, ⟨HN.out, H4.out⟩, _, (H.out.drewN _).drewN _⟩⟩
    · go_simp
      refine width8_any.mono ?_
      rintro e w' ⟨rfl, rfl⟩
      refine hK _ _ ?_
      clear hK K
      refine wpAny_ready (rs := [0]) (by kernel_rfl) (by simp) ?_
      refine AllReady.cons rfl (fun K hK => ?_) AllReady.nil
      go_simp
      refine hK _ _ ?_
      clear hK K
      refine wpAny_ready (rs := [2]) (by kernel_rfl) (by simp) ?_
      refine AllReady.cons rfl (fun K hK => ?_) AllReady.nil
      go_simp
      refine (take_cut H.out.drew 1 hcut).mono ?_
      rintro e w' ⟨rfl, m, rfl⟩
      exact ⟨rfl, ((Keeps.refl _ _).drewN 1).drewN _, .inr ⟨20, rfl, ⟨HN.out, H4.out⟩, _, (H.out.drewN _).drewN _⟩⟩
  · have hle : at_ + 1 ≤ l.length := by omega
    have HN := Lib.hid (show takeF 1 (l.drop at_) = .ok (beVal ((l.drop at_).take 1), 1) from by unfold takeF; rw [if_neg (by rw [List.length_drop]; omega)])
    have H1 := Lib.hid h1
    have hbr : br ≠ g := by
      intro e
      have := H1.out.cell 0
      rw [e, H.out.blk.cell 0] at this
      simp at this
    have HBR := Lib.hid hbr
    clear hbr
    go_enter Try.func94, Try.ntmps94
    go_wp2_with fail
    go_region_held3 (fun w' => w'.cell? ⟨br, 0, none⟩ = some (.pointer (some ⟨g, 0, none⟩))) (first | assumption | go_keep) (first | (go_at_call 91; refine width8_any.mono ?_; rintro e w' ⟨rfl, rfl⟩) | (go_at_call 95; refine (take_ok H.out.drew 1 hle).mono ?_; rintro e w1 ⟨A1, rfl, R1, G1, S1⟩; have c2 := (H1.out.keeps (w := w.drew) (Keeps.of_grown G1.out) (fun e => HBR.out (by injection e))).cell 0; simp at c2))
    have G0 := Lib.hid (Keeps.of_grown G1.out)
    have V0 := Lib.hid (H4.out.keeps (w := w.drew) G0.out (fun e => by have := HG.out; injection e with e; omega))
    have K0 := Lib.hid (show Keeps (fun k => k = g ∨ k = bv) w w1 from ((Keeps.refl _ _).drewN 1).trans G0.out (fun i h => .inl (.inl (by injection h))))
    clear c1 c2
    obtain ⟨p, hp⟩ : ∃ p, p = (l.drop at_).take 1 := ⟨_, rfl⟩
    have hpl : p.length = 1 := by rw [hp, List.length_take, List.length_drop]; omega
    rw [← hp] at S1 HN
    have HPL := Lib.hid hpl
    clear hp hpl
    go_wp2
    go_loopw [8] (fun i wr => ∃ (k : Nat), i = .int .i64 k ∧ k ≤ 1 ∧ Hid (Blk wr bv 135 #[.int .u64 (beVal (p.take k) : Nat)]) ∧ Hid (RdAt wr g A c l (at_ + 1) 0) ∧ Hid (BReads wr g A1 p) ∧ Hid (Keeps (fun k => k = g ∨ k = bv) w wr)) (fun i _ => 1 - (intOf i).toNat)
    case atStart => exact ⟨0, rfl, by omega, V0, R1, S1, K0⟩
    case round =>
      obtain ⟨k, rfl, hk, hV, hR, hS, hK⟩ := hrel
      by_cases hlt : (k : Int) < 1
      · have hkp : k < p.length := by have := HPL.out; omega
        obtain ⟨b1, o1, rfl, _, c1⟩ := hS.out.at_ hkp
        have c2 := hV.out.cell 0
        have f2 := hV.out.frozen 0
        simp only [List.getElem?_toArray, List.getElem?_cons_zero] at c2
        have hbl : (p[k].toNat : Int) < 256 := by have := p[k].toNat_lt; omega
        have hk0 : (0 : Int) ≤ (k : Int) := by omega
        obtain ⟨b, hb⟩ : ∃ b, b = p[k] := ⟨_, rfl⟩
        rw [← hb] at c1 hbl
        obtain ⟨V, hVe⟩ : ∃ V, V = beVal (p.take k) := ⟨_, rfl⟩
        rw [← hVe] at c2
        have hV7 : V < 256 ^ 7 := by
          rw [hVe]
          have := beVal_lt p k
          have h7 : 256 ^ k ≤ 256 ^ 7 := Nat.pow_le_pow_right (by omega) (by omega)
          omega
        have E1 := wrap_mul256 V hV7
        obtain ⟨V', hV'⟩ : ∃ V', V' = V * 256 + b.toNat := ⟨_, rfl⟩
        have E2 : bits .or .u64 ((V : Int) * 256) (b.toNat : Int) = (V' : Int) := by
          rw [hV']; exact or_byte' V b hV7
        have HV' := Lib.hid (show beVal (p.take (k + 1)) = V' from by rw [beVal_take hkp, ← hVe, ← hb, hV'])
        clear hb hVe hV7 hV'
        go_wp2
        have VB := Lib.hid (hV.out.set_ 0 (.int .u64 (V' : Int)))
        have KB : Keeps (fun i => i = bv) wr (wr.setCell ⟨bv, 0, none⟩ (.int .u64 (V' : Int))) := (Keeps.refl (fun i => i = bv) wr).setCell (.inl rfl) _
        have hgn := HG.out
        go_roundw
        case rel => exact ⟨k + 1, by go_num, by omega, Lib.hid (by rw [HV'.out]; simpa using VB.out), Lib.hid (hR.out.keeps KB (fun i h => by omega)), Lib.hid (hS.out.below (KB.below (Nat.le_of_lt hR.out.blk.lt) (fun i h => by omega))), Lib.hid (hK.out.trans KB (fun i h => .inl (.inr h)))⟩
        case measure => simp [intOf]; omega
      · go_wp2
        go_end0
        obtain rfl : k = 1 := by omega
        have e2 : p.take 1 = p := List.take_of_length_le (by rw [HPL.out]; exact Nat.le_refl _)
        refine ⟨hK.out, .inl ⟨rfl, _, _, HN.out, ?_, hR.out⟩⟩
        rw [← e2]; exact hV.out

theorem enterTake8 (caps : Array Value) (w : World) : (callFunc 94 caps).run Try.prog w = .ok (.enter 94 caps) w :=
  callFunc_enter 94 Try.f94 _ Try.func94 rfl (by kernel_rfl) caps w
theorem rdTake8_any {w : World} {g : Nat} {r : Rd} (h : RdIs w g r) :
    Calls Try.prog 66 #[.pointer (some ⟨g, 0, none⟩)] w (RdPost w g (r.take 1) (AnsK .u8)) := by
  obtain ⟨A, c, HR⟩ := h
  have hmf : ∀ (fn : Fn) (first cap : Array Value) (w : World), (Instr.makeFunc fn first cap).run Try.prog w = .ok (.func fn first cap) w := fun _ _ _ _ => rfl
  have H := Lib.hid HR
  clear HR
  go_enter Try.func66, Try.ntmps66
  go_wp2_with fail
  obtain ⟨W1, hW1⟩ : ∃ x, x = w.alloc (.cells #[.pointer (some ⟨g, 0, none⟩)] 99) := ⟨_, rfl⟩
  obtain ⟨W2, hW2⟩ : ∃ x, x = W1.alloc (.cells #[.int .u64 0] 135) := ⟨_, rfl⟩
  have s1 : W1.heap.size = w.heap.size + 1 := by rw [hW1]; simp
  have Rn : RdAt W2 g A c r.l r.at_ r.f := by rw [hW2, hW1]; exact (H.out.alloc _).alloc _
  have k1 : Blk W2 (w.heap.size) 99 #[.pointer (some ⟨g, 0, none⟩)] := by rw [hW2, hW1]; exact (Blk.new _ _ _).alloc _
  have k2 : Blk W2 (w.heap.size + 1) 135 #[.int .u64 0] := by rw [← s1, hW2]; exact Blk.new _ _ _
  have Kn : Keeps (fun k => k = g) w W2 := by rw [hW2, hW1]; exact ((Keeps.refl _ _).alloc _).alloc _
  have hszn : w.heap.size ≤ W2.heap.size := Kn.size
  have hg := H.out.blk.lt
  rw [← hW1, ← hW2]
  clear hW1 hW2 s1
  by_cases hf : r.f = 0
  · rw [hf] at Rn
    have HF := Lib.hid hf
    clear hf
    refine (reading_any Rn 94 _ (fun k => k = g ∨ k = w.heap.size + 1) (fun k hk => by have := k2.lt; rcases hk with rfl | rfl <;> omega) (.inl rfl) (enterTake8 _)
      (fun w2 => ∃ n k, takeF 1 (r.l.drop r.at_) = .ok (n, k) ∧ Blk w2 (w.heap.size + 1) 135 #[.int .u64 (n : Nat)] ∧ RdAt w2 g A c r.l (r.at_ + k) 0)
      (fun m w2 => takeF 1 (r.l.drop r.at_) = .error m ∧ Blk w2 (w.heap.size + 1) 135 #[.int .u64 0])
      (fun w1 hb => take81_any (Rn.below hb) (k1.below' hb) (k2.below' hb) (by omega))).mono ?_
    rintro e w5 ⟨rfl, hk, h⟩
    have K5 := Lib.hid (Kn.trans hk (fun i hi => hi.elim (fun h => .inl h) (fun h => .inr (by omega))))
    clear hk Rn k1 k2 Kn hszn
    rcases h with ⟨n, k, hn, hb, hr⟩ | ⟨m, w2, ⟨hn, hb⟩, hk2, rfl, at', hr⟩
    · have R5 := Lib.hid hr
      have HN := Lib.hid hn
      have hlt : (n : Int) < 256 := by have := (takeF_lt hn).1; omega
      have c1 := hb.cell 0
      simp at c1
      clear hn hb hr
      go_wp2
      go_ret
      refine ⟨?_, ⟨A, c, ?_⟩, K5.out⟩ <;> (simp only [Rd.int, Rd.bytes, Rd.take, Rd.step, HF.out, HN.out, if_true])
      · rfl
      · exact R5.out
    · have R5 := Lib.hid (hr.faulted r.at_ H.out.le m)
      have HN := Lib.hid hn
      have c1 := ((hb.far (p := ⟨g, 1, none⟩) (by simp; omega) (.int .i64 r.at_)).far (p := ⟨g, 2, none⟩) (by simp; omega) (.int .i64 m)).cell 0
      simp only [List.getElem?_toArray, List.getElem?_cons_zero] at c1
      obtain ⟨w6, hw6⟩ : ∃ x, x = (w2.setCell ⟨g, 1, none⟩ (.int .i64 r.at_)).setCell ⟨g, 2, none⟩ (.int .i64 m) := ⟨_, rfl⟩
      rw [← hw6] at R5 c1 K5 ⊢
      clear hn hb hr hk2 hw6
      go_wp2
      go_ret
      refine ⟨?_, ⟨A, c, ?_⟩, K5.out⟩ <;> (simp only [Rd.int, Rd.bytes, Rd.take, Rd.step, HF.out, HN.out, if_true])
      · rfl
      · exact R5.out
  · refine (reading_fault Rn hf _).mono ?_
    rintro e w5 ⟨rfl, hb⟩
    have c1 := (k2.below' hb).cell 0
    simp at c1
    have R5 := Lib.hid (Rn.below hb)
    have K5 := Lib.hid (Kn.trans (Keeps.of_below hb (fun _ => False)) (fun _ h => h.elim))
    have HF := Lib.hid hf
    clear hb Rn k1 k2 Kn hf hszn
    go_wp2
    go_ret
    refine ⟨?_, ⟨A, c, ?_⟩, K5.out⟩ <;> (simp only [Rd.int, Rd.bytes, Rd.take, Rd.step, if_neg HF.out])
    · rfl
    · exact R5.out
theorem take321_any {w : World} {g br bv : Nat} {A : Option Addr} {c : Nat} {l : List UInt8} {at_ : Nat} (HR : RdAt w g A c l at_ 0)
    (h1 : Blk w br 99 #[.pointer (some ⟨g, 0, none⟩)]) (h4 : Blk w bv 135 #[.int .u64 0]) (hgn : g < bv) :
    Calls Try.prog 122 #[.pointer (some ⟨br, 0, none⟩), .pointer (some ⟨bv, 0, none⟩)] w fun e w2 => Keeps (fun k => k = g ∨ k = bv) w w2 ∧
      (e = .returned (.tuple #[]) ∧ (∃ n k, takeF 4 (l.drop at_) = .ok (n, k) ∧ Blk w2 bv 135 #[.int .u64 (n : Nat)] ∧ RdAt w2 g A c l (at_ + k) 0) ∨
        ∃ m, e = gaveUp m ∧ (takeF 4 (l.drop at_) = .error m ∧ Blk w2 bv 135 #[.int .u64 0]) ∧ ∃ at', RdAt w2 g A c l at' 0) := by
  have c1 := h1.cell 0
  simp at c1
  have H4 := Lib.hid h4
  have H := Lib.hid HR
  have HG := Lib.hid hgn
  clear HR h4 hgn
  by_cases hcut : (l.length : Int) - at_ < 4
  · have HN := Lib.hid (show takeF 4 (l.drop at_) = .error 20 from by unfold takeF; rw [if_pos (by rw [List.length_drop]; omega)])
    go_enter Try.func122, Try.ntmps122
    go_wp2_with fail
    refine wp_region_any (by kernel_rfl) ?_
    refine wpAny_take (i := 4) (v := .int .i64 0) rfl (by kernel_rfl) (by kernel_rfl) (by kernel_rfl) (fun _ _ _ h => h) (Or.inl ⟨by rfl, by intro w; go_simp⟩) ?_
    refine wpAny_ready (rs := [0, 1]) (by kernel_rfl) (by simp) ?_
    refine AllReady.cons rfl (fun K hK => ?_) (AllReady.cons rfl (fun K hK => ?_) AllReady.nil)
    · go_simp
      refine hK _ _ ?_
      clear hK K
      refine wpAny_ready (rs := [1]) (by kernel_rfl) (by simp) ?_
      refine AllReady.cons rfl (fun K hK => ?_) AllReady.nil
      go_simp
      refine width32_any.mono ?_
      rintro e w' ⟨rfl, rfl⟩
      refine hK _ _ ?_
      clear hK K
      refine wpAny_ready (rs := [2]) (by kernel_rfl) (by simp) ?_
      refine AllReady.cons rfl (fun K hK => ?_) AllReady.nil
      go_simp
      refine (take_cut H.out.drew 4 hcut).mono ?_
      rintro e w' ⟨rfl, m, rfl⟩
      exact ⟨rfl, ((Keeps.refl _ _).drewN 1).drewN _, .inr ⟨20, rfl, ⟨HN.out, H4.out⟩, _, (H.out.drewN _).drewN _⟩⟩
    · go_simp
      refine width32_any.mono ?_
      rintro e w' ⟨rfl, rfl⟩
      refine hK _ _ ?_
      clear hK K
      refine wpAny_ready (rs := [0]) (by kernel_rfl) (by simp) ?_
      refine AllReady.cons rfl (fun K hK => ?_) AllReady.nil
      go_simp
      refine hK _ _ ?_
      clear hK K
      refine wpAny_ready (rs := [2]) (by kernel_rfl) (by simp) ?_
      refine AllReady.cons rfl (fun K hK => ?_) AllReady.nil
      go_simp
      refine (take_cut H.out.drew 4 hcut).mono ?_
      rintro e w' ⟨rfl, m, rfl⟩
      exact ⟨rfl, ((Keeps.refl _ _).drewN 1).drewN _, .inr ⟨20, rfl, ⟨HN.out, H4.out⟩, _, (H.out.drewN _).drewN _⟩⟩
  · have hle : at_ + 4 ≤ l.length := by omega
    have HN := Lib.hid (show takeF 4 (l.drop at_) = .ok (beVal ((l.drop at_).take 4), 4) from by unfold takeF; rw [if_neg (by rw [List.length_drop]; omega)])
    have H1 := Lib.hid h1
    have hbr : br ≠ g := by
      intro e
      have := H1.out.cell 0
      rw [e, H.out.blk.cell 0] at this
      simp at this
    have HBR := Lib.hid hbr
    clear hbr
    go_enter Try.func122, Try.ntmps122
    go_wp2_with fail
    go_region_held3 (fun w' => w'.cell? ⟨br, 0, none⟩ = some (.pointer (some ⟨g, 0, none⟩))) (first | assumption | go_keep) (first | (go_at_call 118; refine width32_any.mono ?_; rintro e w' ⟨rfl, rfl⟩) | (go_at_call 95; refine (take_ok H.out.drew 4 hle).mono ?_; rintro e w1 ⟨A1, rfl, R1, G1, S1⟩; have c2 := (H1.out.keeps (w := w.drew) (Keeps.of_grown G1.out) (fun e => HBR.out (by injection e))).cell 0; simp at c2))
    have G0 := Lib.hid (Keeps.of_grown G1.out)
    have V0 := Lib.hid (H4.out.keeps (w := w.drew) G0.out (fun e => by have := HG.out; injection e with e; omega))
    have K0 := Lib.hid (show Keeps (fun k => k = g ∨ k = bv) w w1 from ((Keeps.refl _ _).drewN 1).trans G0.out (fun i h => .inl (.inl (by injection h))))
    clear c1 c2
    obtain ⟨p, hp⟩ : ∃ p, p = (l.drop at_).take 4 := ⟨_, rfl⟩
    have hpl : p.length = 4 := by rw [hp, List.length_take, List.length_drop]; omega
    rw [← hp] at S1 HN
    have HPL := Lib.hid hpl
    clear hp hpl
    go_wp2
    go_loopw [8] (fun i wr => ∃ (k : Nat), i = .int .i64 k ∧ k ≤ 4 ∧ Hid (Blk wr bv 135 #[.int .u64 (beVal (p.take k) : Nat)]) ∧ Hid (RdAt wr g A c l (at_ + 4) 0) ∧ Hid (BReads wr g A1 p) ∧ Hid (Keeps (fun k => k = g ∨ k = bv) w wr)) (fun i _ => 4 - (intOf i).toNat)
    case atStart => exact ⟨0, rfl, by omega, V0, R1, S1, K0⟩
    case round =>
      obtain ⟨k, rfl, hk, hV, hR, hS, hK⟩ := hrel
      by_cases hlt : (k : Int) < 4
      · have hkp : k < p.length := by have := HPL.out; omega
        obtain ⟨b1, o1, rfl, _, c1⟩ := hS.out.at_ hkp
        have c2 := hV.out.cell 0
        have f2 := hV.out.frozen 0
        simp only [List.getElem?_toArray, List.getElem?_cons_zero] at c2
        have hbl : (p[k].toNat : Int) < 256 := by have := p[k].toNat_lt; omega
        have hk0 : (0 : Int) ≤ (k : Int) := by omega
        obtain ⟨b, hb⟩ : ∃ b, b = p[k] := ⟨_, rfl⟩
        rw [← hb] at c1 hbl
        obtain ⟨V, hVe⟩ : ∃ V, V = beVal (p.take k) := ⟨_, rfl⟩
        rw [← hVe] at c2
        have hV7 : V < 256 ^ 7 := by
          rw [hVe]
          have := beVal_lt p k
          have h7 : 256 ^ k ≤ 256 ^ 7 := Nat.pow_le_pow_right (by omega) (by omega)
          omega
        have E1 := wrap_mul256 V hV7
        obtain ⟨V', hV'⟩ : ∃ V', V' = V * 256 + b.toNat := ⟨_, rfl⟩
        have E2 : bits .or .u64 ((V : Int) * 256) (b.toNat : Int) = (V' : Int) := by
          rw [hV']; exact or_byte' V b hV7
        have HV' := Lib.hid (show beVal (p.take (k + 1)) = V' from by rw [beVal_take hkp, ← hVe, ← hb, hV'])
        clear hb hVe hV7 hV'
        go_wp2
        have VB := Lib.hid (hV.out.set_ 0 (.int .u64 (V' : Int)))
        have KB : Keeps (fun i => i = bv) wr (wr.setCell ⟨bv, 0, none⟩ (.int .u64 (V' : Int))) := (Keeps.refl (fun i => i = bv) wr).setCell (.inl rfl) _
        have hgn := HG.out
        go_roundw
        case rel => exact ⟨k + 1, by go_num, by omega, Lib.hid (by rw [HV'.out]; simpa using VB.out), Lib.hid (hR.out.keeps KB (fun i h => by omega)), Lib.hid (hS.out.below (KB.below (Nat.le_of_lt hR.out.blk.lt) (fun i h => by omega))), Lib.hid (hK.out.trans KB (fun i h => .inl (.inr h)))⟩
        case measure => simp [intOf]; omega
      · go_wp2
        go_end0
        obtain rfl : k = 4 := by omega
        have e2 : p.take 4 = p := List.take_of_length_le (by rw [HPL.out]; exact Nat.le_refl _)
        refine ⟨hK.out, .inl ⟨rfl, _, _, HN.out, ?_, hR.out⟩⟩
        rw [← e2]; exact hV.out

theorem enterTake32 (caps : Array Value) (w : World) : (callFunc 122 caps).run Try.prog w = .ok (.enter 122 caps) w :=
  callFunc_enter 122 Try.f122 _ Try.func122 rfl (by kernel_rfl) caps w
theorem rdTake32_any {w : World} {g : Nat} {r : Rd} (h : RdIs w g r) :
    Calls Try.prog 120 #[.pointer (some ⟨g, 0, none⟩)] w (RdPost w g (r.take 4) (AnsK .u32)) := by
  obtain ⟨A, c, HR⟩ := h
  have hmf : ∀ (fn : Fn) (first cap : Array Value) (w : World), (Instr.makeFunc fn first cap).run Try.prog w = .ok (.func fn first cap) w := fun _ _ _ _ => rfl
  have H := Lib.hid HR
  clear HR
  go_enter Try.func120, Try.ntmps120
  go_wp2_with fail
  obtain ⟨W1, hW1⟩ : ∃ x, x = w.alloc (.cells #[.pointer (some ⟨g, 0, none⟩)] 99) := ⟨_, rfl⟩
  obtain ⟨W2, hW2⟩ : ∃ x, x = W1.alloc (.cells #[.int .u64 0] 135) := ⟨_, rfl⟩
  have s1 : W1.heap.size = w.heap.size + 1 := by rw [hW1]; simp
  have Rn : RdAt W2 g A c r.l r.at_ r.f := by rw [hW2, hW1]; exact (H.out.alloc _).alloc _
  have k1 : Blk W2 (w.heap.size) 99 #[.pointer (some ⟨g, 0, none⟩)] := by rw [hW2, hW1]; exact (Blk.new _ _ _).alloc _
  have k2 : Blk W2 (w.heap.size + 1) 135 #[.int .u64 0] := by rw [← s1, hW2]; exact Blk.new _ _ _
  have Kn : Keeps (fun k => k = g) w W2 := by rw [hW2, hW1]; exact ((Keeps.refl _ _).alloc _).alloc _
  have hszn : w.heap.size ≤ W2.heap.size := Kn.size
  have hg := H.out.blk.lt
  rw [← hW1, ← hW2]
  clear hW1 hW2 s1
  by_cases hf : r.f = 0
  · rw [hf] at Rn
    have HF := Lib.hid hf
    clear hf
    refine (reading_any Rn 122 _ (fun k => k = g ∨ k = w.heap.size + 1) (fun k hk => by have := k2.lt; rcases hk with rfl | rfl <;> omega) (.inl rfl) (enterTake32 _)
      (fun w2 => ∃ n k, takeF 4 (r.l.drop r.at_) = .ok (n, k) ∧ Blk w2 (w.heap.size + 1) 135 #[.int .u64 (n : Nat)] ∧ RdAt w2 g A c r.l (r.at_ + k) 0)
      (fun m w2 => takeF 4 (r.l.drop r.at_) = .error m ∧ Blk w2 (w.heap.size + 1) 135 #[.int .u64 0])
      (fun w1 hb => take321_any (Rn.below hb) (k1.below' hb) (k2.below' hb) (by omega))).mono ?_
    rintro e w5 ⟨rfl, hk, h⟩
    have K5 := Lib.hid (Kn.trans hk (fun i hi => hi.elim (fun h => .inl h) (fun h => .inr (by omega))))
    clear hk Rn k1 k2 Kn hszn
    rcases h with ⟨n, k, hn, hb, hr⟩ | ⟨m, w2, ⟨hn, hb⟩, hk2, rfl, at', hr⟩
    · have R5 := Lib.hid hr
      have HN := Lib.hid hn
      have hlt : (n : Int) < 4294967296 := by have := (takeF_lt hn).1; omega
      have c1 := hb.cell 0
      simp at c1
      clear hn hb hr
      go_wp2
      go_ret
      refine ⟨?_, ⟨A, c, ?_⟩, K5.out⟩ <;> (simp only [Rd.int, Rd.bytes, Rd.take, Rd.step, HF.out, HN.out, if_true])
      · rfl
      · exact R5.out
    · have R5 := Lib.hid (hr.faulted r.at_ H.out.le m)
      have HN := Lib.hid hn
      have c1 := ((hb.far (p := ⟨g, 1, none⟩) (by simp; omega) (.int .i64 r.at_)).far (p := ⟨g, 2, none⟩) (by simp; omega) (.int .i64 m)).cell 0
      simp only [List.getElem?_toArray, List.getElem?_cons_zero] at c1
      obtain ⟨w6, hw6⟩ : ∃ x, x = (w2.setCell ⟨g, 1, none⟩ (.int .i64 r.at_)).setCell ⟨g, 2, none⟩ (.int .i64 m) := ⟨_, rfl⟩
      rw [← hw6] at R5 c1 K5 ⊢
      clear hn hb hr hk2 hw6
      go_wp2
      go_ret
      refine ⟨?_, ⟨A, c, ?_⟩, K5.out⟩ <;> (simp only [Rd.int, Rd.bytes, Rd.take, Rd.step, HF.out, HN.out, if_true])
      · rfl
      · exact R5.out
  · refine (reading_fault Rn hf _).mono ?_
    rintro e w5 ⟨rfl, hb⟩
    have c1 := (k2.below' hb).cell 0
    simp at c1
    have R5 := Lib.hid (Rn.below hb)
    have K5 := Lib.hid (Kn.trans (Keeps.of_below hb (fun _ => False)) (fun _ h => h.elim))
    have HF := Lib.hid hf
    clear hb Rn k1 k2 Kn hf hszn
    go_wp2
    go_ret
    refine ⟨?_, ⟨A, c, ?_⟩, K5.out⟩ <;> (simp only [Rd.int, Rd.bytes, Rd.take, Rd.step, if_neg HF.out])
    · rfl
    · exact R5.out
end Go.Proofs.Ytnnladfndmdapaa
