/- Contracts and plain laws that this claim leans on, laid together: Rdr7, PlainF, PlainT, Frm1, Frm2, All. -/
import Derived.Test.YtmnpchncmbnddaaGreatG03
import Derived.Deep.RegionHeld3
import Derived.Test.YtmnpchncmbnddaaGreatG02
import Derived.Test.YtmnpchncmbnddaaGreatG01
import Derived.BigQuiet
set_option linter.all false
set_option linter.unusedVariables false
set_option linter.unusedSimpArgs false
set_option linter.unnecessarySimpa false
/- The reader's Take at every kind: contracts (printed by a program of this claim's own). -/
namespace Go.Proofs.YtmnpchncmbnddaaGreat
open Go.RowKit
set_option linter.unusedSimpArgs false
theorem take81_any {w : World} {g br bv : Nat} {A : Option Addr} {c : Nat} {l : List UInt8} {at_ : Nat} (HR : RdAt w g A c l at_ 0)
    (h1 : Blk w br 229 #[.pointer (some ⟨g, 0, none⟩)]) (h4 : Blk w bv 271 #[.int .u64 0]) (hgn : g < bv) :
    Calls Tryz.prog 195 #[.pointer (some ⟨br, 0, none⟩), .pointer (some ⟨bv, 0, none⟩)] w fun e w2 => Keeps (fun k => k = g ∨ k = bv) w w2 ∧
      (e = .returned (.tuple #[]) ∧ (∃ n k, takeF 1 (l.drop at_) = .ok (n, k) ∧ Blk w2 bv 271 #[.int .u64 (n : Nat)] ∧ RdAt w2 g A c l (at_ + k) 0) ∨
        ∃ m, e = gaveUp m ∧ (takeF 1 (l.drop at_) = .error m ∧ Blk w2 bv 271 #[.int .u64 0]) ∧ ∃ at', RdAt w2 g A c l at' 0) := by
  have c1 := h1.cell 0
  simp at c1
  have H4 := Lib.hid h4
  have H := Lib.hid HR
  have HG := Lib.hid hgn
  clear HR h4 hgn
  by_cases hcut : (l.length : Int) - at_ < 1
  · have HN := Lib.hid (show takeF 1 (l.drop at_) = .error 20 from by unfold takeF; rw [if_pos (by rw [List.length_drop]; omega)])
    go_enter Tryz.func195, Tryz.ntmps195
    go_wp2_with fail
    refine wp_region_any (by kernel_rfl) ?_
    refine wpAny_take (i := 4) (v := .int .i64 0) rfl (by kernel_rfl) (by kernel_rfl) (by kernel_rfl) (fun _ _ _ h => h) (Or.inl ⟨by rfl, by intro w; go_simp⟩) ?_
    refine wpAny_ready (rs := [0, 1]) (by kernel_rfl) (by simp) ?_
    refine AllReady.cons rfl (fun K hK => ?_) (AllReady.cons rfl (fun K hK => ?_) AllReady.nil)
    · go_simp
      refine hK _ _ ?_
      clear hK K
      refine wpAny_ready (rs := [1]) (by kernel_rfl) (by simp) ?_
      refine AllReady.cons rfl (fun K hK => ?_) AllReady.nil
      go_simp
      refine width8_any.mono ?_
      rintro e w' ⟨rfl, rfl⟩
      refine hK _ _ ?_
      clear hK K
      refine wpAny_ready (rs := [2]) (by kernel_rfl) (by simp) ?_
      refine AllReady.cons rfl (fun K hK => ?_) AllReady.nil
      go_simp
      refine (take_cut H.out.drew 1 hcut).mono ?_
      rintro e w' ⟨rfl, m, rfl⟩
      exact ⟨rfl, ((Keeps.refl _ _).drewN 1).drewN _, .inr ⟨20, rfl, ⟨HN.out, H4.out⟩, _, (H.out.drewN _).drewN _⟩⟩
    · go_simp
      refine width8_any.mono ?_
      rintro e w' ⟨rfl, rfl⟩
      refine hK _ _ ?_
      clear hK K
      refine wpAny_ready (rs := [0]) (by kernel_rfl) (by simp) ?_
      refine AllReady.cons rfl (fun K hK => ?_) AllReady.nil
      go_simp
      refine hK _ _ ?_
      clear hK K
      refine wpAny_ready (rs := [2]) (by kernel_rfl) (by simp) ?_
      refine AllReady.cons rfl (fun K hK => ?_) AllReady.nil
      go_simp
      refine (take_cut H.out.drew 1 hcut).mono ?_
      rintro e w' ⟨rfl, m, rfl⟩
      exact ⟨rfl, ((Keeps.refl _ _).drewN 1).drewN _, .inr ⟨20, rfl, ⟨HN.out, H4.out⟩, _, (H.out.drewN _).drewN _⟩⟩
  · have hle : at_ + 1 ≤ l.length := by omega
    have HN := Lib.hid (show takeF 1 (l.drop at_) = .ok (beVal ((l.drop at_).take 1), 1) from by unfold takeF; rw [if_neg (by rw [List.length_drop]; omega)])
    have H1 := Lib.hid h1
    have hbr : br ≠ g := by
      intro e
      have := H1.out.cell 0
      rw [e, H.out.blk.cell 0] at this
      simp at this
    have HBR := Lib.hid hbr
    clear hbr
    go_enter Tryz.func195, Tryz.ntmps195
    go_wp2_with fail
    go_region_held3 (fun w' => w'.cell? ⟨br, 0, none⟩ = some (.pointer (some ⟨g, 0, none⟩))) (first | assumption | go_keep) (first | (go_at_call 197; refine width8_any.mono ?_; rintro e w' ⟨rfl, rfl⟩) | (go_at_call 196; refine (take_ok H.out.drew 1 hle).mono ?_; rintro e w1 ⟨A1, rfl, R1, G1, S1⟩; have c2 := (H1.out.keeps (w := w.drew) (Keeps.of_grown G1.out) (fun e => HBR.out (by injection e))).cell 0; simp at c2))
    have G0 := Lib.hid (Keeps.of_grown G1.out)
    have V0 := Lib.hid (H4.out.keeps (w := w.drew) G0.out (fun e => by have := HG.out; injection e with e; omega))
    have K0 := Lib.hid (show Keeps (fun k => k = g ∨ k = bv) w w1 from ((Keeps.refl _ _).drewN 1).trans G0.out (fun i h => .inl (.inl (by injection h))))
    clear c1 c2
    obtain ⟨p, hp⟩ : ∃ p, p = (l.drop at_).take 1 := ⟨_, rfl⟩
    have hpl : p.length = 1 := by rw [hp, List.length_take, List.length_drop]; omega
    rw [← hp] at S1 HN
    have HPL := Lib.hid hpl
    clear hp hpl
    go_wp2
    go_loopw [8] (fun i wr => ∃ (k : Nat), i = .int .i64 k ∧ k ≤ 1 ∧ Hid (Blk wr bv 271 #[.int .u64 (beVal (p.take k) : Nat)]) ∧ Hid (RdAt wr g A c l (at_ + 1) 0) ∧ Hid (BReads wr g A1 p) ∧ Hid (Keeps (fun k => k = g ∨ k = bv) w wr)) (fun i _ => 1 - (intOf i).toNat)
    case atStart => exact ⟨0, rfl, by omega, V0, R1, S1, K0⟩
    case round =>
      obtain ⟨k, rfl, hk, hV, hR, hS, hK⟩ := hrel
      by_cases hlt : (k : Int) < 1
      · have hkp : k < p.length := by have := HPL.out; omega
        obtain ⟨b1, o1, rfl, _, c1⟩ := hS.out.at_ hkp
        have c2 := hV.out.cell 0
        have f2 := hV.out.frozen 0
        simp only [List.getElem?_toArray, List.getElem?_cons_zero] at c2
        have hbl : (p[k].toNat : Int) < 256 := by have := p[k].toNat_lt; omega
        have hk0 : (0 : Int) ≤ (k : Int) := by omega
        obtain ⟨b, hb⟩ : ∃ b, b = p[k] := ⟨_, rfl⟩
        rw [← hb] at c1 hbl
        obtain ⟨V, hVe⟩ : ∃ V, V = beVal (p.take k) := ⟨_, rfl⟩
        rw [← hVe] at c2
        have hV7 : V < 256 ^ 7 := by
          rw [hVe]
          have := beVal_lt p k
          have h7 : 256 ^ k ≤ 256 ^ 7 := Nat.pow_le_pow_right (by omega) (by omega)
          omega
        have E1 := wrap_mul256 V hV7
        obtain ⟨V', hV'⟩ : ∃ V', V' = V * 256 + b.toNat := ⟨_, rfl⟩
        have E2 : bits .or .u64 ((V : Int) * 256) (b.toNat : Int) = (V' : Int) := by
          rw [hV']; exact or_byte' V b hV7
        have HV' := Lib.hid (show beVal (p.take (k + 1)) = V' from by rw [beVal_take hkp, ← hVe, ← hb, hV'])
        clear hb hVe hV7 hV'
        go_wp2
        have VB := Lib.hid (hV.out.set_ 0 (.int .u64 (V' : Int)))
        have KB : Keeps (fun i => i = bv) wr (wr.setCell ⟨bv, 0, none⟩ (.int .u64 (V' : Int))) := (Keeps.refl (fun i => i = bv) wr).setCell (.inl rfl) _
        have hgn := HG.out
        go_roundw
        case rel => exact ⟨k + 1, by go_num, by omega, Lib.hid (by rw [HV'.out]; simpa using VB.out), Lib.hid (hR.out.keeps KB (fun i h => by omega)), Lib.hid (hS.out.below (KB.below (Nat.le_of_lt hR.out.blk.lt) (fun i h => by omega))), Lib.hid (hK.out.trans KB (fun i h => .inl (.inr h)))⟩
        case measure => simp [intOf]; omega
      · go_wp2
        go_end0
        obtain rfl : k = 1 := by omega
        have e2 : p.take 1 = p := List.take_of_length_le (by rw [HPL.out]; exact Nat.le_refl _)
        refine ⟨hK.out, .inl ⟨rfl, _, _, HN.out, ?_, hR.out⟩⟩
        rw [← e2]; exact hV.out

theorem enterTake8 (caps : Array Value) (w : World) : (callFunc 195 caps).run Tryz.prog w = .ok (.enter 195 caps) w :=
  callFunc_enter 195 Tryz.f195 _ Tryz.func195 rfl (by kernel_rfl) caps w
theorem rdTake8_any {w : World} {g : Nat} {r : Rd} (h : RdIs w g r) :
    Calls Tryz.prog 148 #[.pointer (some ⟨g, 0, none⟩)] w (RdPost w g (r.take 1) (AnsK .u8)) := by
  obtain ⟨A, c, HR⟩ := h
  have hmf : ∀ (fn : Fn) (first cap : Array Value) (w : World), (Instr.makeFunc fn first cap).run Tryz.prog w = .ok (.func fn first cap) w := fun _ _ _ _ => rfl
  have H := Lib.hid HR
  clear HR
  go_enter Tryz.func148, Tryz.ntmps148
  go_wp2_with fail
  obtain ⟨W1, hW1⟩ : ∃ x, x = w.alloc (.cells #[.pointer (some ⟨g, 0, none⟩)] 229) := ⟨_, rfl⟩
  obtain ⟨W2, hW2⟩ : ∃ x, x = W1.alloc (.cells #[.int .u64 0] 271) := ⟨_, rfl⟩
  have s1 : W1.heap.size = w.heap.size + 1 := by rw [hW1]; simp
  have Rn : RdAt W2 g A c r.l r.at_ r.f := by rw [hW2, hW1]; exact (H.out.alloc _).alloc _
  have k1 : Blk W2 (w.heap.size) 229 #[.pointer (some ⟨g, 0, none⟩)] := by rw [hW2, hW1]; exact (Blk.new _ _ _).alloc _
  have k2 : Blk W2 (w.heap.size + 1) 271 #[.int .u64 0] := by rw [← s1, hW2]; exact Blk.new _ _ _
  have Kn : Keeps (fun k => k = g) w W2 := by rw [hW2, hW1]; exact ((Keeps.refl _ _).alloc _).alloc _
  have hszn : w.heap.size ≤ W2.heap.size := Kn.size
  have hg := H.out.blk.lt
  rw [← hW1, ← hW2]
  clear hW1 hW2 s1
  by_cases hf : r.f = 0
  · rw [hf] at Rn
    have HF := Lib.hid hf
    clear hf
    refine (reading_any Rn 195 _ (fun k => k = g ∨ k = w.heap.size + 1) (fun k hk => by have := k2.lt; rcases hk with rfl | rfl <;> omega) (.inl rfl) (enterTake8 _)
      (fun w2 => ∃ n k, takeF 1 (r.l.drop r.at_) = .ok (n, k) ∧ Blk w2 (w.heap.size + 1) 271 #[.int .u64 (n : Nat)] ∧ RdAt w2 g A c r.l (r.at_ + k) 0)
      (fun m w2 => takeF 1 (r.l.drop r.at_) = .error m ∧ Blk w2 (w.heap.size + 1) 271 #[.int .u64 0])
      (fun w1 hb => take81_any (Rn.below hb) (k1.below' hb) (k2.below' hb) (by omega))).mono ?_
    rintro e w5 ⟨rfl, hk, h⟩
    have K5 := Lib.hid (Kn.trans hk (fun i hi => hi.elim (fun h => .inl h) (fun h => .inr (by omega))))
    clear hk Rn k1 k2 Kn hszn
    rcases h with ⟨n, k, hn, hb, hr⟩ | ⟨m, w2, ⟨hn, hb⟩, hk2, rfl, at', hr⟩
    · have R5 := Lib.hid hr
      have HN := Lib.hid hn
      have hlt : (n : Int) < 256 := by have := (takeF_lt hn).1; omega
      have c1 := hb.cell 0
      simp at c1
      clear hn hb hr
      go_wp2
      go_ret
      refine ⟨?_, ⟨A, c, ?_⟩, K5.out⟩ <;> (simp only [Rd.int, Rd.bytes, Rd.take, Rd.step, HF.out, HN.out, if_true])
      · rfl
      · exact R5.out
    · have R5 := Lib.hid (hr.faulted r.at_ H.out.le m)
      have HN := Lib.hid hn
      have c1 := ((hb.far (p := ⟨g, 1, none⟩) (by simp; omega) (.int .i64 r.at_)).far (p := ⟨g, 2, none⟩) (by simp; omega) (.int .i64 m)).cell 0
      simp only [List.getElem?_toArray, List.getElem?_cons_zero] at c1
      obtain ⟨w6, hw6⟩ : ∃ x, x = (w2.setCell ⟨g, 1, none⟩ (.int .i64 r.at_)).setCell ⟨g, 2, none⟩ (.int .i64 m) := ⟨_, rfl⟩
      rw [← hw6] at R5 c1 K5 ⊢
      clear hn hb hr hk2 hw6
      go_wp2
      go_ret
      refine ⟨?_, ⟨A, c, ?_⟩, K5.out⟩ <;> (simp only [Rd.int, Rd.bytes, Rd.take, Rd.step, HF.out, HN.out, if_true])
      · rfl
      · exact R5.out
  · refine (reading_fault Rn hf _).mono ?_
    rintro e w5 ⟨rfl, hb⟩
    have c1 := (k2.below' hb).cell 0
    simp at c1
    have R5 := Lib.hid (Rn.below hb)
    have K5 := Lib.hid (Kn.trans (Keeps.of_below hb (fun _ => False)) (fun _ h => h.elim))
    have HF := Lib.hid hf
    clear hb Rn k1 k2 Kn hf hszn
    go_wp2
    go_ret
    refine ⟨?_, ⟨A, c, ?_⟩, K5.out⟩ <;> (simp only [Rd.int, Rd.bytes, Rd.take, Rd.step, if_neg HF.out])
    · rfl
    · exact R5.out
theorem take321_any {w : World} {g br bv : Nat} {A : Option Addr} {c : Nat} {l : List UInt8} {at_ : Nat} (HR : RdAt w g A c l at_ 0)
    (h1 : Blk w br 229 #[.pointer (some ⟨g, 0, none⟩)]) (h4 : Blk w bv 271 #[.int .u64 0]) (hgn : g < bv) :
    Calls Tryz.prog 225 #[.pointer (some ⟨br, 0, none⟩), .pointer (some ⟨bv, 0, none⟩)] w fun e w2 => Keeps (fun k => k = g ∨ k = bv) w w2 ∧
      (e = .returned (.tuple #[]) ∧ (∃ n k, takeF 4 (l.drop at_) = .ok (n, k) ∧ Blk w2 bv 271 #[.int .u64 (n : Nat)] ∧ RdAt w2 g A c l (at_ + k) 0) ∨
        ∃ m, e = gaveUp m ∧ (takeF 4 (l.drop at_) = .error m ∧ Blk w2 bv 271 #[.int .u64 0]) ∧ ∃ at', RdAt w2 g A c l at' 0) := by
  have c1 := h1.cell 0
  simp at c1
  have H4 := Lib.hid h4
  have H := Lib.hid HR
  have HG := Lib.hid hgn
  clear HR h4 hgn
  by_cases hcut : (l.length : Int) - at_ < 4
  · have HN := Lib.hid (show takeF 4 (l.drop at_) = .error 20 from by unfold takeF; rw [if_pos (by rw [List.length_drop]; omega)])
    go_enter Tryz.func225, Tryz.ntmps225
    go_wp2_with fail
    refine wp_region_any (by kernel_rfl) ?_
    refine wpAny_take (i := 4) (v := .int .i64 0) rfl (by kernel_rfl) (by kernel_rfl) (by kernel_rfl) (fun _ _ _ h => h) (Or.inl ⟨by rfl, by intro w; go_simp⟩) ?_
    refine wpAny_ready (rs := [0, 1]) (by kernel_rfl) (by simp) ?_
    refine AllReady.cons rfl (fun K hK => ?_) (AllReady.cons rfl (fun K hK => ?_) AllReady.nil)
    · go_simp
      refine hK _ _ ?_
      clear hK K
      refine wpAny_ready (rs := [1]) (by kernel_rfl) (by simp) ?_
      refine AllReady.cons rfl (fun K hK => ?_) AllReady.nil
      go_simp
      refine width32_any.mono ?_
      rintro e w' ⟨rfl, rfl⟩
      refine hK _ _ ?_
      clear hK K
      refine wpAny_ready (rs := [2]) (by kernel_rfl) (by simp) ?_
      refine AllReady.cons rfl (fun K hK => ?_) AllReady.nil
      go_simp
      refine (take_cut H.out.drew 4 hcut).mono ?_
      rintro e w' ⟨rfl, m, rfl⟩
      exact ⟨rfl, ((Keeps.refl _ _).drewN 1).drewN _, .inr ⟨20, rfl, ⟨HN.out, H4.out⟩, _, (H.out.drewN _).drewN _⟩⟩
    · go_simp
      refine width32_any.mono ?_
      rintro e w' ⟨rfl, rfl⟩
      refine hK _ _ ?_
      clear hK K
      refine wpAny_ready (rs := [0]) (by kernel_rfl) (by simp) ?_
      refine AllReady.cons rfl (fun K hK => ?_) AllReady.nil
      go_simp
      refine hK _ _ ?_
      clear hK K
      refine wpAny_ready (rs := [2]) (by kernel_rfl) (by simp) ?_
      refine AllReady.cons rfl (fun K hK => ?_) AllReady.nil
      go_simp
      refine (take_cut H.out.drew 4 hcut).mono ?_
      rintro e w' ⟨rfl, m, rfl⟩
      exact ⟨rfl, ((Keeps.refl _ _).drewN 1).drewN _, .inr ⟨20, rfl, ⟨HN.out, H4.out⟩, _, (H.out.drewN _).drewN _⟩⟩
  · have hle : at_ + 4 ≤ l.length := by omega
    have HN := Lib.hid (show takeF 4 (l.drop at_) = .ok (beVal ((l.drop at_).take 4), 4) from by unfold takeF; rw [if_neg (by rw [List.length_drop]; omega)])
    have H1 := Lib.hid h1
    have hbr : br ≠ g := by
      intro e
      have := H1.out.cell 0
      rw [e, H.out.blk.cell 0] at this
      simp at this
    have HBR := Lib.hid hbr
    clear hbr
    go_enter Tryz.func225, Tryz.ntmps225
    go_wp2_with fail
    go_region_held3 (fun w' => w'.cell? ⟨br, 0, none⟩ = some (.pointer (some ⟨g, 0, none⟩))) (first | assumption | go_keep) (first | (go_at_call 212; refine width32_any.mono ?_; rintro e w' ⟨rfl, rfl⟩) | (go_at_call 196; refine (take_ok H.out.drew 4 hle).mono ?_; rintro e w1 ⟨A1, rfl, R1, G1, S1⟩; have c2 := (H1.out.keeps (w := w.drew) (Keeps.of_grown G1.out) (fun e => HBR.out (by injection e))).cell 0; simp at c2))
    have G0 := Lib.hid (Keeps.of_grown G1.out)
    have V0 := Lib.hid (H4.out.keeps (w := w.drew) G0.out (fun e => by have := HG.out; injection e with e; omega))
    have K0 := Lib.hid (show Keeps (fun k => k = g ∨ k = bv) w w1 from ((Keeps.refl _ _).drewN 1).trans G0.out (fun i h => .inl (.inl (by injection h))))
    clear c1 c2
    obtain ⟨p, hp⟩ : ∃ p, p = (l.drop at_).take 4 := ⟨_, rfl⟩
    have hpl : p.length = 4 := by rw [hp, List.length_take, List.length_drop]; omega
    rw [← hp] at S1 HN
    have HPL := Lib.hid hpl
    clear hp hpl
    go_wp2
    go_loopw [8] (fun i wr => ∃ (k : Nat), i = .int .i64 k ∧ k ≤ 4 ∧ Hid (Blk wr bv 271 #[.int .u64 (beVal (p.take k) : Nat)]) ∧ Hid (RdAt wr g A c l (at_ + 4) 0) ∧ Hid (BReads wr g A1 p) ∧ Hid (Keeps (fun k => k = g ∨ k = bv) w wr)) (fun i _ => 4 - (intOf i).toNat)
    case atStart => exact ⟨0, rfl, by omega, V0, R1, S1, K0⟩
    case round =>
      obtain ⟨k, rfl, hk, hV, hR, hS, hK⟩ := hrel
      by_cases hlt : (k : Int) < 4
      · have hkp : k < p.length := by have := HPL.out; omega
        obtain ⟨b1, o1, rfl, _, c1⟩ := hS.out.at_ hkp
        have c2 := hV.out.cell 0
        have f2 := hV.out.frozen 0
        simp only [List.getElem?_toArray, List.getElem?_cons_zero] at c2
        have hbl : (p[k].toNat : Int) < 256 := by have := p[k].toNat_lt; omega
        have hk0 : (0 : Int) ≤ (k : Int) := by omega
        obtain ⟨b, hb⟩ : ∃ b, b = p[k] := ⟨_, rfl⟩
        rw [← hb] at c1 hbl
        obtain ⟨V, hVe⟩ : ∃ V, V = beVal (p.take k) := ⟨_, rfl⟩
        rw [← hVe] at c2
        have hV7 : V < 256 ^ 7 := by
          rw [hVe]
          have := beVal_lt p k
          have h7 : 256 ^ k ≤ 256 ^ 7 := Nat.pow_le_pow_right (by omega) (by omega)
          omega
        have E1 := wrap_mul256 V hV7
        obtain ⟨V', hV'⟩ : ∃ V', V' = V * 256 + b.toNat := ⟨_, rfl⟩
        have E2 : bits .or .u64 ((V : Int) * 256) (b.toNat : Int) = (V' : Int) := by
          rw [hV']; exact or_byte' V b hV7
        have HV' := Lib.hid (show beVal (p.take (k + 1)) = V' from by rw [beVal_take hkp, ← hVe, ← hb, hV'])
        clear hb hVe hV7 hV'
        go_wp2
        have VB := Lib.hid (hV.out.set_ 0 (.int .u64 (V' : Int)))
        have KB : Keeps (fun i => i = bv) wr (wr.setCell ⟨bv, 0, none⟩ (.int .u64 (V' : Int))) := (Keeps.refl (fun i => i = bv) wr).setCell (.inl rfl) _
        have hgn := HG.out
        go_roundw
        case rel => exact ⟨k + 1, by go_num, by omega, Lib.hid (by rw [HV'.out]; simpa using VB.out), Lib.hid (hR.out.keeps KB (fun i h => by omega)), Lib.hid (hS.out.below (KB.below (Nat.le_of_lt hR.out.blk.lt) (fun i h => by omega))), Lib.hid (hK.out.trans KB (fun i h => .inl (.inr h)))⟩
        case measure => simp [intOf]; omega
      · go_wp2
        go_end0
        obtain rfl : k = 4 := by omega
        have e2 : p.take 4 = p := List.take_of_length_le (by rw [HPL.out]; exact Nat.le_refl _)
        refine ⟨hK.out, .inl ⟨rfl, _, _, HN.out, ?_, hR.out⟩⟩
        rw [← e2]; exact hV.out

theorem enterTake32 (caps : Array Value) (w : World) : (callFunc 225 caps).run Tryz.prog w = .ok (.enter 225 caps) w :=
  callFunc_enter 225 Tryz.f225 _ Tryz.func225 rfl (by kernel_rfl) caps w
theorem rdTake32_any {w : World} {g : Nat} {r : Rd} (h : RdIs w g r) :
    Calls Tryz.prog 217 #[.pointer (some ⟨g, 0, none⟩)] w (RdPost w g (r.take 4) (AnsK .u32)) := by
  obtain ⟨A, c, HR⟩ := h
  have hmf : ∀ (fn : Fn) (first cap : Array Value) (w : World), (Instr.makeFunc fn first cap).run Tryz.prog w = .ok (.func fn first cap) w := fun _ _ _ _ => rfl
  have H := Lib.hid HR
  clear HR
  go_enter Tryz.func217, Tryz.ntmps217
  go_wp2_with fail
  obtain ⟨W1, hW1⟩ : ∃ x, x = w.alloc (.cells #[.pointer (some ⟨g, 0, none⟩)] 229) := ⟨_, rfl⟩
  obtain ⟨W2, hW2⟩ : ∃ x, x = W1.alloc (.cells #[.int .u64 0] 271) := ⟨_, rfl⟩
  have s1 : W1.heap.size = w.heap.size + 1 := by rw [hW1]; simp
  have Rn : RdAt W2 g A c r.l r.at_ r.f := by rw [hW2, hW1]; exact (H.out.alloc _).alloc _
  have k1 : Blk W2 (w.heap.size) 229 #[.pointer (some ⟨g, 0, none⟩)] := by rw [hW2, hW1]; exact (Blk.new _ _ _).alloc _
  have k2 : Blk W2 (w.heap.size + 1) 271 #[.int .u64 0] := by rw [← s1, hW2]; exact Blk.new _ _ _
  have Kn : Keeps (fun k => k = g) w W2 := by rw [hW2, hW1]; exact ((Keeps.refl _ _).alloc _).alloc _
  have hszn : w.heap.size ≤ W2.heap.size := Kn.size
  have hg := H.out.blk.lt
  rw [← hW1, ← hW2]
  clear hW1 hW2 s1
  by_cases hf : r.f = 0
  · rw [hf] at Rn
    have HF := Lib.hid hf
    clear hf
    refine (reading_any Rn 225 _ (fun k => k = g ∨ k = w.heap.size + 1) (fun k hk => by have := k2.lt; rcases hk with rfl | rfl <;> omega) (.inl rfl) (enterTake32 _)
      (fun w2 => ∃ n k, takeF 4 (r.l.drop r.at_) = .ok (n, k) ∧ Blk w2 (w.heap.size + 1) 271 #[.int .u64 (n : Nat)] ∧ RdAt w2 g A c r.l (r.at_ + k) 0)
      (fun m w2 => takeF 4 (r.l.drop r.at_) = .error m ∧ Blk w2 (w.heap.size + 1) 271 #[.int .u64 0])
      (fun w1 hb => take321_any (Rn.below hb) (k1.below' hb) (k2.below' hb) (by omega))).mono ?_
    rintro e w5 ⟨rfl, hk, h⟩
    have K5 := Lib.hid (Kn.trans hk (fun i hi => hi.elim (fun h => .inl h) (fun h => .inr (by omega))))
    clear hk Rn k1 k2 Kn hszn
    rcases h with ⟨n, k, hn, hb, hr⟩ | ⟨m, w2, ⟨hn, hb⟩, hk2, rfl, at', hr⟩
    · have R5 := Lib.hid hr
      have HN := Lib.hid hn
      have hlt : (n : Int) < 4294967296 := by have := (takeF_lt hn).1; omega
      have c1 := hb.cell 0
      simp at c1
      clear hn hb hr
      go_wp2
      go_ret
      refine ⟨?_, ⟨A, c, ?_⟩, K5.out⟩ <;> (simp only [Rd.int, Rd.bytes, Rd.take, Rd.step, HF.out, HN.out, if_true])
      · rfl
      · exact R5.out
    · have R5 := Lib.hid (hr.faulted r.at_ H.out.le m)
      have HN := Lib.hid hn
      have c1 := ((hb.far (p := ⟨g, 1, none⟩) (by simp; omega) (.int .i64 r.at_)).far (p := ⟨g, 2, none⟩) (by simp; omega) (.int .i64 m)).cell 0
      simp only [List.getElem?_toArray, List.getElem?_cons_zero] at c1
      obtain ⟨w6, hw6⟩ : ∃ x, x = (w2.setCell ⟨g, 1, none⟩ (.int .i64 r.at_)).setCell ⟨g, 2, none⟩ (.int .i64 m) := ⟨_, rfl⟩
      rw [← hw6] at R5 c1 K5 ⊢
      clear hn hb hr hk2 hw6
      go_wp2
      go_ret
      refine ⟨?_, ⟨A, c, ?_⟩, K5.out⟩ <;> (simp only [Rd.int, Rd.bytes, Rd.take, Rd.step, HF.out, HN.out, if_true])
      · rfl
      · exact R5.out
  · refine (reading_fault Rn hf _).mono ?_
    rintro e w5 ⟨rfl, hb⟩
    have c1 := (k2.below' hb).cell 0
    simp at c1
    have R5 := Lib.hid (Rn.below hb)
    have K5 := Lib.hid (Kn.trans (Keeps.of_below hb (fun _ => False)) (fun _ h => h.elim))
    have HF := Lib.hid hf
    clear hb Rn k1 k2 Kn hf hszn
    go_wp2
    go_ret
    refine ⟨?_, ⟨A, c, ?_⟩, K5.out⟩ <;> (simp only [Rd.int, Rd.bytes, Rd.take, Rd.step, if_neg HF.out])
    · rfl
    · exact R5.out
end Go.Proofs.YtmnpchncmbnddaaGreat
/- What is read is put as just the bytes that were taken. No program in sight. -/
namespace Go.Proofs.YtmnpchncmbnddaaGreat
open Go.RowKit

theorem beN_beVal : ∀ (k : Nat) (l : List UInt8), l.length = k → beN k (beVal l) = l := by
  intro k
  induction k with
  | zero => intro l hl; rw [List.eq_nil_of_length_eq_zero hl]; rfl
  | succ k ih =>
    intro l hl
    cases l with
    | nil => simp at hl
    | cons a r =>
      have hr : r.length = k := by simpa using hl
      have hval : ∀ (r : List UInt8) (x : Nat), r.foldl (fun v b => v * 256 + b.toNat) x = x * 256 ^ r.length + beVal r := by
        intro r
        induction r with
        | nil => intro x; simp [beVal]
        | cons c s ihs =>
          intro x
          have e : beVal (c :: s) = s.foldl (fun v b => v * 256 + b.toNat) (0 * 256 + c.toNat) := rfl
          rw [List.foldl_cons, ihs, e, ihs, List.length_cons, Nat.pow_succ, Nat.add_mul, Nat.add_mul, Nat.mul_assoc, Nat.mul_comm 256]
          omega
      have hlt : beVal r < 256 ^ k := by have := beVal_lt r k; rwa [List.take_of_length_le (by omega)] at this
      have hv : beVal (a :: r) = a.toNat * 256 ^ k + beVal r := by
        have e : beVal (a :: r) = r.foldl (fun v b => v * 256 + b.toNat) (0 * 256 + a.toNat) := rfl
        rw [e, hval, hr]; simp
      have hp : 0 < 256 ^ k := Nat.pow_pos (by decide)
      have ha := a.toNat_lt
      have h1 : (a.toNat * 256 ^ k + beVal r) / 256 ^ k % 256 = a.toNat := by
        rw [Nat.mul_comm, Nat.mul_add_div hp, Nat.div_eq_of_lt hlt]; omega
      have h2 : ∀ (m : Nat) (x y : Nat), beN m (x * 256 ^ m + y) = beN m y := by
        intro m
        induction m with
        | zero => intros; rfl
        | succ m ihm =>
          intro x y
          have e1 : x * 256 ^ (m + 1) + y = (x * 256) * 256 ^ m + y := by rw [Nat.pow_succ, Nat.mul_comm (256 ^ m), Nat.mul_assoc]
          have hpm : 0 < 256 ^ m := Nat.pow_pos (by decide)
          rw [beN, beN, e1, ihm, Nat.mul_comm (x * 256), Nat.mul_add_div hpm]
          congr 2
          omega
      rw [hv, beN, h1, h2, ih r hr, UInt8.ofNat_toNat]
end Go.Proofs.YtmnpchncmbnddaaGreat
/- What is put is read again: plain words on things, their bytes and their reading. No program in sight. -/
namespace Go.Proofs.YtmnpchncmbnddaaGreat
open Go.RowKit

structure Th where
  kind : Int
  v : Int
  n : Int
  p : List UInt8
/-- The bytes of a thing. -/
def Th.bytes (t : Th) : List UInt8 :=
  if t.kind = 0 then beN 1 (t.v.toNat % 256)
  else if t.kind = 1 then beN 2 (t.v.toNat % 65536)
  else if t.kind = 2 then beN 4 (t.v.toNat % 4294967296)
  else if t.kind = 3 then beN 8 t.v.toNat
  else if t.kind = 4 then intF t.n
  else if t.kind = 5 then intF t.p.length ++ t.p
  else intF t.p.length ++ t.p
/-- A reading of a thing: whether it answers the thing, and the reader behind it. -/
def Rd.back (r : Rd) (t : Th) : Bool × Rd :=
  if t.kind = 0 then (decide ((r.take 1).1 = t.v.toNat % 256), (r.take 1).2)
  else if t.kind = 1 then (decide ((r.take 2).1 = t.v.toNat % 65536), (r.take 2).2)
  else if t.kind = 2 then (decide ((r.take 4).1 = t.v.toNat % 4294967296), (r.take 4).2)
  else if t.kind = 3 then (decide ((r.take 8).1 = t.v.toNat), (r.take 8).2)
  else if t.kind = 4 then (decide ((r.int t.n t.n).1 = t.n), (r.int t.n t.n).2)
  else if t.kind = 5 then (decide ((r.bytes t.p.length).1 = t.p), (r.bytes t.p.length).2)
  else (decide ((r.bytes t.p.length).1 = t.p), (r.bytes t.p.length).2)

theorem scan_there (post : List UInt8) : ∀ (q i u : Nat), q * 128 ^ i < 18446744073709551616 → (0 < i → 0 < q) → scan i u (shortF q ++ post) = .ok (u + q * 128 ^ i, i + (shortF q).length) := by
  intro q
  induction q using Nat.strongRecOn with
  | _ q ih =>
    intro i u hq hpos
    by_cases h : q < 128
    · rw [shortF_small h, List.cons_append, List.nil_append, scan]
      have ht : (UInt8.ofNat q).toNat = q := by rw [UInt8.toNat_ofNat_of_lt' (by show q < 256; omega)]
      rw [ht, if_neg, if_neg (by omega), if_neg (by omega), Nat.mod_eq_of_lt h]; rfl
      rintro ⟨rfl, h1⟩
      have : 2 * 128 ^ 9 ≤ q * 128 ^ 9 := Nat.mul_le_mul_right _ (by omega)
      omega
    · rw [shortF_big (by omega), List.cons_append, scan]
      have ht : (UInt8.ofNat (q % 128 + 128)).toNat = q % 128 + 128 := by rw [UInt8.toNat_ofNat_of_lt' (by show _ < 256; omega)]
      have hm : q % 128 * 128 ^ i + q / 128 * 128 ^ (i + 1) = q * 128 ^ i := by
        rw [Nat.pow_succ, Nat.mul_comm (128 ^ i), ← Nat.mul_assoc, ← Nat.add_mul]
        congr 1
        omega
      rw [ht, if_neg, if_pos (by omega), ih (q / 128) (by omega) (i + 1) _ (by omega) (fun _ => by omega)]
      · simp only [List.length_cons]
        rw [show (q % 128 + 128) % 128 = q % 128 from by omega, Nat.add_assoc, hm, Nat.add_assoc, Nat.add_comm 1]
      · rintro ⟨rfl, h1⟩
        have : 128 * 128 ^ 9 ≤ q * 128 ^ 9 := Nat.mul_le_mul_right _ (by omega)
        omega
theorem unfold_fold (n : Int) : unfoldI (foldI n) = n := by
  unfold foldI unfoldI
  split <;> split <;> omega
theorem numberF_there {low high n : Int} (h0 : -9223372036854775808 ≤ n) (h1 : n ≤ 9223372036854775807) (hl : low ≤ n) (hh : n ≤ high) (post : List UInt8) : numberF low high (intF n ++ post) = .ok (n, (intF n).length) := by
  unfold numberF intF
  rw [if_neg (by omega), scan_there post (foldI n) 0 0 (by have := foldI_lt h0 h1; omega) (fun h => by omega)]
  simp only [Nat.zero_add, Nat.pow_zero, Nat.mul_one]
  rw [unfold_fold, if_neg (by omega)]
theorem beVal_beN (k : Nat) : ∀ v, v < 256 ^ k → ∀ x, (beN k v).foldl (fun v b => v * 256 + b.toNat) x = x * 256 ^ k + v := by
  induction k with
  | zero => intro v hv x; have : v = 0 := by simpa using hv
            subst this; simp [beN]
  | succ k ih =>
    intro v hv x
    have hp : 0 < 256 ^ k := Nat.pow_pos (by decide)
    have h1 : v / 256 ^ k < 256 := by rw [Nat.div_lt_iff_lt_mul hp]; rw [Nat.pow_succ] at hv; omega
    have hm : ∀ (m : Nat) (x : Nat), beN m (x % 256 ^ m) = beN m x := by
      have hq : ∀ (k v m : Nat), k ≤ m → beN k (v % 256 ^ m) = beN k v := by
        intro k
        induction k with
        | zero => intros; rfl
        | succ k ih =>
          intro v m hm
          have h : v % 256 ^ m / 256 ^ k % 256 = v / 256 ^ k % 256 := by
            obtain ⟨d, rfl⟩ : ∃ d, m = k + (d + 1) := ⟨m - k - 1, by omega⟩
            rw [Nat.pow_add, Nat.mod_mul_right_div_self, Nat.pow_succ, Nat.mul_comm (256 ^ d), Nat.mod_mul_right_mod]
          rw [beN, beN, h, ih v m (by omega)]
      intro m x; exact hq m x m (Nat.le_refl _)
    rw [beN, List.foldl_cons, ← hm k v, ih _ (Nat.mod_lt _ hp), UInt8.toNat_ofNat_of_lt' (by show _ < 256; omega), Nat.mod_eq_of_lt h1, Nat.pow_succ, Nat.add_mul, Nat.add_assoc, Nat.mul_comm (v / 256 ^ k), Nat.div_add_mod, Nat.mul_assoc, Nat.mul_comm 256]
/-- The numbers of a thing are those of their kinds. -/
structure Th.ok (t : Th) : Prop where
  v0 : 0 ≤ t.v
  v1 : t.v < 18446744073709551616
  n0 : -9223372036854775808 ≤ t.n
  n1 : t.n ≤ 9223372036854775807
theorem Th.bytes_len (t : Th) (hok : t.ok) (hp : t.p.length ≤ 100000000) : t.bytes.length ≤ t.p.length + 10 := by
  have h1 := intF_length hok.n0 hok.n1
  have h2 := intF_length (n := (t.p.length : Int)) (by omega) (by omega)
  unfold Th.bytes
  repeat' split
  all_goals (try simp only [beN_length, List.length_append])
  all_goals omega
end Go.Proofs.YtmnpchncmbnddaaGreat
/- Frames, by contract: number, Make. -/
namespace Go.Proofs.YtmnpchncmbnddaaGreat
open Go.RowKit

theorem take_readsF {w : World} {B k : Nat} {A : Option Addr} {l : List UInt8} (h : BReads w B A l) : BReads w B A (l.take k) := by
  refine ⟨by rw [bys_length, Nat.mul_one], fun hp => ?_⟩
  rw [List.length_take] at hp
  obtain ⟨b, off, e, hb, hc⟩ := h.2 (by omega)
  refine ⟨b, off, e, hb, fun j u hu => hc j u ?_⟩
  have hj : j < (l.take k).length := by have := (List.getElem?_eq_some_iff.1 hu).1; rwa [bys_length] at this
  rw [← hu, bys_get, bys_get, List.getElem?_take, if_pos (by rw [List.length_take] at hj; omega)]
theorem rd_number {P : List UInt8} (h : P.length = 4) : Rd.take ⟨P, 0, 0⟩ 4 = (beVal P, ⟨P, 4, 0⟩) := by
  simp only [Rd.take, Rd.step, takeF, if_true, List.drop_zero]
  rw [if_neg (by omega)]
  simp only
  rw [List.take_of_length_le (by omega)]
theorem be4_lt {P : List UInt8} (h : P.length = 4) : beVal P < 4294967296 := by
  have := beVal_lt P 4
  rw [List.take_of_length_le (by omega)] at this
  exact this
set_option maxRecDepth 100000 in
theorem number4_any {w : World} {B c : Nat} {A : Option Addr} {b : List UInt8} (hr : BReads w B A b) (h4 : 4 ≤ b.length) (hc : b.length ≤ c) :
    Calls Tryz.prog 192 #[.slice A b.length c] w fun e w' => e = .returned (.int .i64 ((beVal (b.take 4) : Nat) : Int)) ∧ Below w.heap.size w w' := by
  obtain ⟨P, hP⟩ : ∃ P, P = b.take 4 := ⟨_, rfl⟩
  have HPL := Lib.hid (show P.length = 4 from by rw [hP, List.length_take]; omega)
  have HS := Lib.hid (show BReads w B A P from by rw [hP]; exact take_readsF hr)
  have hc4 : (4 : Int) ≤ (c : Int) := by omega
  have hop := open_any (c := c) HS.out (by rw [HPL.out]; omega)
  rw [HPL.out] at hop
  have hlt := be4_lt HPL.out
  rw [← hP]
  obtain ⟨n, hn⟩ : ∃ n, n = beVal P := ⟨_, rfl⟩
  have HN := Lib.hid hn
  rw [← hn] at hlt ⊢
  clear hP hr hn
  have hnI : (n : Int) < 4294967296 := by omega
  go_enter Tryz.func192, Tryz.ntmps192
  go_wp2_with fail
  refine hop.mono ?_
  rintro e w1 h
  obtain ⟨g, rfl, hg, hrd, hb⟩ := h.out
  have HB := Lib.hid hb
  have HG := Lib.hid hg
  have hx := rdTake32_any hrd
  rw [rd_number HPL.out, ← HN.out] at hx
  clear h hrd hb hg hop
  go_wp2_with fail
  refine hx.mono ?_
  rintro e w2 ⟨ha, _, hk⟩
  obtain rfl : e = .returned (.int .u32 n) := ha
  have HK := Lib.hid (HB.out.trans (hk.below HB.out.size (fun i hi => by rw [hi]; exact HG.out)))
  clear hx hk
  go_wp2
  go_ret
  exact ⟨rfl, HK.out⟩
/-- The frame of a payload. -/
def headF (p : List UInt8) : List UInt8 := [197] ++ beN 4 p.length ++ p
def frameF (p : List UInt8) : List UInt8 := headF p ++ beN 4 (sumF (headF p))
theorem headF_len (p : List UInt8) : (headF p).length = p.length + 5 := by
  unfold headF; simp only [List.length_append, List.length_cons, List.length_nil, beN_length]; omega
theorem frameF_len (p : List UInt8) : (frameF p).length = p.length + 9 := by
  unfold frameF; rw [List.length_append, headF_len, beN_length]
end Go.Proofs.YtmnpchncmbnddaaGreat
/- Frames, by contract: Read. -/
namespace Go.Proofs.YtmnpchncmbnddaaGreat
open Go.RowKit

/-- The length that a frame's head says. -/
def numF (b : List UInt8) : Nat := beVal ((b.drop 1).take 4)
/-- The payload of the frame with which bytes begin, and the frame's size; or the error. -/
def readF (b : List UInt8) : Except Int (List UInt8 × Nat) :=
  if b.length = 0 then .error 20
  else if b.getD 0 0 ≠ 197 then .error 90
  else if b.length < 5 then .error 20
  else if 65536 < numF b then .error 3
  else if b.length < 5 + numF b + 4 then .error 20
  else if beVal ((b.drop (5 + numF b)).take 4) ≠ sumF (b.take (5 + numF b)) then .error 91
  else .ok ((b.drop 5).take (numF b), 5 + numF b + 4)
/-- What Read answers: the payload in new memory, and the size; or the error. -/
def ReadPost (w : World) (x : Except Int (List UInt8 × Nat)) (e : Ending) (w' : World) : Prop :=
  match x with
  | .ok (p, k) => ∃ v', e = .returned (.tuple #[v', .int .i64 k, .int .i64 0]) ∧ BOwns w' w.heap.size v' p ∧ Below w.heap.size w w'
  | .error m => e = .returned (.tuple #[.slice none 0 0, .int .i64 0, .int .i64 m]) ∧ Below w.heap.size w w'
theorem ReadPost.err {w w' : World} {x : Except Int (List UInt8 × Nat)} {m : Int} {e : Ending} (hx : x = .error m) (he : e = .returned (.tuple #[.slice none 0 0, .int .i64 0, .int .i64 m])) (hb : Below w.heap.size w w') : ReadPost w x e w' := by
  subst hx; exact ⟨he, hb⟩
theorem ReadPost.good {w w' : World} {x : Except Int (List UInt8 × Nat)} {p : List UInt8} {k : Nat} {v' : Value} {e : Ending} (hx : x = .ok (p, k)) (he : e = .returned (.tuple #[v', .int .i64 k, .int .i64 0])) (ho : BOwns w' w.heap.size v' p) (hb : Below w.heap.size w w') : ReadPost w x e w' := by
  subst hx; exact ⟨v', he, ho, hb⟩
set_option maxRecDepth 100000 in
set_option maxHeartbeats 3200000 in
theorem read_any {w : World} {c : Nat} {A : Option Addr} {b : List UInt8} (hr : BReads w w.heap.size A b) (hc : b.length ≤ c) (hl : b.length ≤ 140737488355328) :
    Calls Tryz.prog 146 #[.slice A b.length c] w (ReadPost w (readF b)) := by
  have H0 := Lib.hid hr
  clear hr
  by_cases h0 : b.length = 0
  · have HE := Lib.hid (show readF b = .error 20 from by unfold readF; rw [if_pos h0])
    have h0i : ((b.length : Int) == 0) = true := by rw [beq_iff_eq]; omega
    clear h0
    go_enter Tryz.func146, Tryz.ntmps146
    go_wp2
    go_ret3
    exact ReadPost.err HE.out rfl (Below.refl _ _)
  have h0i : ((b.length : Int) == 0) = false := by rw [beq_eq_false_iff_ne]; omega
  have h0p : 0 < b.length := by omega
  obtain ⟨bb, off, rfl, hbb, hcell⟩ := H0.out.at_ h0p
  rw [Nat.add_zero] at hcell
  have hget : b.getD 0 0 = b[0] := by rw [List.getD_eq_getElem?_getD, List.getElem?_eq_getElem h0p]; rfl
  obtain ⟨x, hx⟩ : ∃ x, x = b[0] := ⟨_, rfl⟩
  rw [← hx] at hcell hget
  have h0pi : (0 : Int) < (b.length : Int) := by omega
  clear hx
  by_cases hmark : x ≠ 197
  · have HE := Lib.hid (show readF b = .error 90 from by unfold readF; rw [if_neg h0, hget, if_pos hmark])
    have hmi : ((x.toNat : Int) != 197) = true := by
      rw [bne_iff_ne]; intro e; exact hmark (UInt8.toNat_inj.1 (by show x.toNat = 197; omega))
    clear h0 hmark hget
    go_enter Tryz.func146, Tryz.ntmps146
    go_wp2
    go_ret3
    exact ReadPost.err HE.out rfl (Below.refl _ _)
  have hx197 : x = 197 := Decidable.not_not.1 hmark
  subst hx197
  rw [show (((197 : UInt8).toNat : Nat) : Int) = 197 from rfl] at hcell
  by_cases h5 : b.length < 5
  · have HE := Lib.hid (show readF b = .error 20 from by unfold readF; rw [if_neg h0, hget, if_neg (by simp), if_pos h5])
    have h5i : (b.length : Int) < 5 := by omega
    clear h0 h5 hmark hget
    go_enter Tryz.func146, Tryz.ntmps146
    go_wp2
    go_ret3
    exact ReadPost.err HE.out rfl (Below.refl _ _)
  have h5i : (5 : Int) ≤ (b.length : Int) := by omega
  have hci : (5 : Int) ≤ (c : Int) := by omega
  have hc1 : ¬ c = 1 := by omega
  obtain ⟨D, hD⟩ : ∃ D, D = b.drop 1 := ⟨_, rfl⟩
  have hDl : D.length = b.length - 1 := by rw [hD, List.length_drop]
  have HD := Lib.hid (show BReads w w.heap.size (some ⟨bb, off + 1, none⟩) D from by
    have := reads_sub_ne H0.out (at_ := 1) (n := b.length - 1) (by omega) hc hc1
    rw [List.take_of_length_le (by rw [List.length_drop]; omega), ← hD] at this
    rw [Option.map_some, add_lit0] at this
    exact this)
  have hnum := number4_any (c := c - 1) HD.out (by omega) (by omega)
  rw [hDl] at hnum
  obtain ⟨N, hN⟩ : ∃ N, N = numF b := ⟨_, rfl⟩
  have hN2 : beVal (D.take 4) = N := by rw [hN, hD]; rfl
  rw [hN2] at hnum
  have HN := Lib.hid hN
  have HNUM := Lib.hid hnum
  have hNlt : N < 4294967296 := by
    rw [← hN2]; exact be4_lt (by rw [List.length_take]; omega)
  have HRD := Lib.hid (show readF b = if 65536 < N then .error 3 else if b.length < 5 + N + 4 then .error 20 else if beVal ((b.drop (5 + N)).take 4) ≠ sumF (b.take (5 + N)) then .error 91 else .ok ((b.drop 5).take N, 5 + N + 4) from by
    unfold readF; rw [if_neg h0, hget, if_neg (by simp), if_neg h5, ← hN])
  clear hN hN2 hnum hD hDl hmark hget h0 h5
  by_cases hbig : 65536 < N
  · have HE := Lib.hid (show readF b = .error 3 from by rw [HRD.out, if_pos hbig])
    have hbigi : (65536 : Int) < (N : Int) := by omega
    clear hbig
    go_enter Tryz.func146, Tryz.ntmps146
    go_wp2_with fail
    refine HNUM.out.mono ?_
    rintro e w1 ⟨rfl, hb⟩
    have B1 := Lib.hid hb
    clear hb
    go_wp2
    go_ret3
    exact ReadPost.err HE.out rfl B1.out
  have hbigi : ¬ (65536 : Int) < (N : Int) := by omega
  by_cases hcut : b.length < 5 + N + 4
  · have HE := Lib.hid (show readF b = .error 20 from by rw [HRD.out, if_neg hbig, if_pos hcut])
    have hcuti : (b.length : Int) < 5 + (N : Int) + 4 := by omega
    clear hbig hcut
    go_enter Tryz.func146, Tryz.ntmps146
    go_wp2_with fail
    refine HNUM.out.mono ?_
    rintro e w1 ⟨rfl, hb⟩
    have B1 := Lib.hid hb
    clear hb
    go_wp2
    go_ret3
    exact ReadPost.err HE.out rfl B1.out
  obtain ⟨E, hE⟩ : ∃ E : Nat, E = 5 + N := ⟨_, rfl⟩
  have hEi : 5 + (N : Int) = (E : Int) := by omega
  have hElen : (E : Int) + 4 ≤ (b.length : Int) := by omega
  have hEc : ¬ c = E := by omega
  have hEcap : (E : Int) ≤ (c : Int) := by omega
  have hEb : (E : Int) ≤ (b.length : Int) := by omega
  have hbc : (b.length : Int) ≤ (c : Int) := by omega
  have hE0 : (0 : Int) ≤ (E : Int) := by omega
  obtain ⟨D2, hD2⟩ : ∃ D, D = b.drop E := ⟨_, rfl⟩
  have hD2l : D2.length = b.length - E := by rw [hD2, List.length_drop]
  have HD2 := Lib.hid (show BReads w w.heap.size (some ⟨bb, off + E, none⟩) D2 from by
    have := reads_sub_ne H0.out (at_ := E) (n := b.length - E) (by omega) hc hEc
    rw [List.take_of_length_le (by rw [List.length_drop]; omega), ← hD2] at this
    rw [Option.map_some, add_lit0] at this
    exact this)
  obtain ⟨T, hT⟩ : ∃ T, T = b.take E := ⟨_, rfl⟩
  have hTl : T.length = E := by rw [hT, List.length_take]; omega
  have HT := Lib.hid (show BReads w w.heap.size (some ⟨bb, off, none⟩) T from by rw [hT]; exact take_readsF H0.out)
  obtain ⟨V, hV⟩ : ∃ V, V = beVal (D2.take 4) := ⟨_, rfl⟩
  obtain ⟨U, hU⟩ : ∃ U, U = sumF T := ⟨_, rfl⟩
  have hUlt : U < 4294967296 := by rw [hU]; exact sumF_lt T
  have hUi : (U : Int) < 4294967296 := by omega
  have HRD2 := Lib.hid (show readF b = if V ≠ U then .error 91 else .ok ((b.drop 5).take N, E + 4) from by
    rw [HRD.out, if_neg hbig, if_neg hcut, ← hE, ← hD2, ← hT, ← hV, ← hU])
  have HEW := Lib.hid (show IntKind.i64.wrap (U : Int) = (U : Int) from by rw [IntKind.wrap_i64]; omega)
  have HTL := Lib.hid hTl
  have hTLs : T.length ≤ 140737488355328 := by omega
  have HD2L := Lib.hid hD2l
  have HU := Lib.hid hU
  have HV := Lib.hid hV
  clear hbig hcut hD2 hD2l hT hTl hV hU hUlt HRD hNlt hUi hE
  go_enter Tryz.func146, Tryz.ntmps146
  go_wp2_with fail
  refine HNUM.out.mono ?_
  rintro e w1 ⟨rfl, hb⟩
  have B1 := Lib.hid hb
  clear hb
  by_cases hne : V ≠ U
  · have HE := Lib.hid (show readF b = .error 91 from by rw [HRD2.out, if_pos hne])
    have hnei : ((V : Int) != (U : Int)) = true := by rw [bne_iff_ne]; omega
    clear hne
    go_upto_region 13 with fail
    have BD := Lib.hid (show Below w1.heap.size w1 w1.drew from (Below.refl _ _).drew)
    have N2 := number4_any (c := c - E) (HD2.out.below B1.out.drew) (by rw [HD2L.out]; omega) (by rw [HD2L.out]; omega)
    rw [HD2L.out, ← HV.out] at N2
    have HN2 := Lib.hid N2
    clear N2
    have Ew := HEW.out
    go_region_held3 (fun w' => Hid (Below w1.heap.size w1 w')) (first | assumption | (exact BD) | (exact BN) | (exact BO)) (first | (go_at_call 192; refine HN2.out.mono ?_; rintro e w2 ⟨rfl, hb⟩; have BN := Lib.hid (BD.out.trans (hb.mono BD.out.size)); clear hb) | (go_at_call 178; have O2 := of_any (c := c) (HT.out.below (B1.out.trans (BN.out.mono B1.out.size))) (Nat.le_trans B1.out.size BN.out.size) hTLs; rw [HTL.out, ← HU.out] at O2; refine O2.mono ?_; rintro e w3 ⟨rfl, hb⟩; have BO := Lib.hid (BN.out.trans (hb.mono BN.out.size)); clear hb O2))
    clear Ew
    go_wp2
    go_ret3
    exact ReadPost.err HE.out rfl (B1.out.trans (BO.out.mono B1.out.size))
  · have HE := Lib.hid (show readF b = .ok ((b.drop 5).take N, E + 4) from by rw [HRD2.out, if_neg hne])
    have hnei : ((V : Int) != (U : Int)) = false := by rw [bne_eq_false_iff_eq]; omega
    clear hne
    go_upto_region 13 with fail
    have BD := Lib.hid (show Below w1.heap.size w1 w1.drew from (Below.refl _ _).drew)
    have N2 := number4_any (c := c - E) (HD2.out.below B1.out.drew) (by rw [HD2L.out]; omega) (by rw [HD2L.out]; omega)
    rw [HD2L.out, ← HV.out] at N2
    have HN2 := Lib.hid N2
    clear N2
    have Ew := HEW.out
    go_region_held3 (fun w' => Hid (Below w1.heap.size w1 w')) (first | assumption | (exact BD) | (exact BN) | (exact BO)) (first | (go_at_call 192; refine HN2.out.mono ?_; rintro e w2 ⟨rfl, hb⟩; have BN := Lib.hid (BD.out.trans (hb.mono BD.out.size)); clear hb) | (go_at_call 178; have O2 := of_any (c := c) (HT.out.below (B1.out.trans (BN.out.mono B1.out.size))) (Nat.le_trans B1.out.size BN.out.size) hTLs; rw [HTL.out, ← HU.out] at O2; refine O2.mono ?_; rintro e w3 ⟨rfl, hb⟩; have BO := Lib.hid (BN.out.trans (hb.mono BN.out.size)); clear hb O2))
    clear Ew
    have BX := Lib.hid (B1.out.trans (BO.out.mono B1.out.size))
    obtain ⟨P, hP⟩ : ∃ P, P = (b.drop 5).take N := ⟨_, rfl⟩
    rw [← hP] at HE
    have HPL := Lib.hid (show P.length = N from by rw [hP, List.length_take, List.length_drop]; omega)
    have hE5 : E - 5 = N := by omega
    have hE5i : (E : Int) - 5 = (N : Int) := by omega
    have hc5 : ¬ c = 5 := by omega
    have HSB := Lib.hid (show BReads w3 w3.heap.size (some ⟨bb, off + 5, none⟩) P from by
      have := reads_sub_ne H0.out (at_ := 5) (n := N) (by omega) hc hc5
      rw [← hP, Option.map_some, add_lit0] at this
      exact (this.below BX.out).more BX.out.size)
    clear hP BN BO BD HN2
    go_wp2_with (at_builtin; refine Stop.of ?_)
    have hsrc := HSB.out.src (c := c - 5)
    rw [HPL.out] at hsrc
    refine ⟨append_bytes (BOwns.nil _ _) (l := []) (m := P) (by rw [HPL.out]; exact hsrc) (by rw [HPL.out]; simp; omega) (Nat.le_refl _) rfl rfl rfl (by rw [← hE5]; rfl) ?_⟩
    intro v' w4 hown hg _
    have HO := Lib.hid (show BOwns w4 w.heap.size v' P from owns_less hown BX.out.size)
    have HG := Lib.hid (BX.out.trans ((below_of_nil hg).mono BX.out.size))
    clear hown hg hsrc HSB
    go_wp2
    go_ret3
    exact ReadPost.good HE.out (by rw [show ((E + 4 : Nat) : Int) = (E : Int) + 4 from by omega]; rfl) HO.out HG.out
end Go.Proofs.YtmnpchncmbnddaaGreat
/- frame.All, by contract: where each frame ends, and its payload. -/
namespace Go.Proofs.YtmnpchncmbnddaaGreat
open Go.RowKit Go.Shelf
attribute [local go_sem] Oper.semAt_some

/-- The frames that stand one behind the other from a place on. -/
def allF (b : List UInt8) : Nat → Nat → List (Nat × List UInt8)
  | 0, _ => []
  | k + 1, t => match readF (b.drop t) with
    | .ok (p, s) => (t + s, p) :: allF b k (t + s)
    | .error _ => []
theorem readF_ok {b p : List UInt8} {s : Nat} (h : readF b = .ok (p, s)) : 9 ≤ s ∧ s ≤ b.length ∧ p.length + 9 = s ∧ p.length ≤ 65536 := by
  unfold readF at h
  repeat (split at h <;> try (cases h; done))
  injection h with h
  injection h with h1 h2
  rw [← h1, List.length_take, List.length_drop]
  omega
/-- What a round is handed. -/
structure Got where
  at_ : Nat
  A : Option Addr
  c : Nat
  p : List UInt8
def Got.encs (x : Got) : Array Value := #[.int .i64 x.at_, .slice x.A x.p.length x.c]
def Got.key (x : Got) : Nat × List UInt8 := (x.at_, x.p)
def Got.rd (x : Got) (W : World) : Prop := BReads W W.heap.size x.A x.p ∧ x.p.length ≤ 65536
theorem Got.rd_own (B : Nat) : Go.OwnFrom B Got.rd := by
  intro x A B' row h hg hr
  refine ⟨⟨h.1.1, fun hp => ?_⟩, h.2⟩
  obtain ⟨b, off, e, hb, hc⟩ := h.1.2 hp
  refine ⟨b, off, e, Nat.lt_of_lt_of_le hb hg.size, fun j u hu => cell_kept (hc j u hu) hg (fun r e => (hr r e).2)⟩
theorem allF_bound {b : List UInt8} : ∀ (k t : Nat) (A : List (Nat × List UInt8)), A <+: allF b k t → t ≤ b.length → t + 9 * A.length ≤ b.length ∧ ∀ y ∈ A, y.1 ≤ b.length := by
  intro k
  induction k with
  | zero =>
    intro t A h ht
    rw [allF] at h
    obtain rfl := List.prefix_nil.1 h
    exact ⟨by simpa using ht, fun y hy => by cases hy⟩
  | succ k ih =>
    intro t A h ht
    rw [allF] at h
    cases hr : readF (b.drop t) with
    | error m =>
      rw [hr] at h
      obtain rfl := List.prefix_nil.1 h
      exact ⟨by simpa using ht, fun y hy => by cases hy⟩
    | ok x =>
      obtain ⟨p, s⟩ := x
      rw [hr] at h
      obtain ⟨h9, hs, _, _⟩ := readF_ok hr
      rw [List.length_drop] at hs
      cases A with
      | nil => exact ⟨by simpa using ht, fun y hy => by cases hy⟩
      | cons y A =>
        obtain ⟨rfl, hA⟩ := List.cons_prefix_cons.1 h
        obtain ⟨h1, h2⟩ := ih _ A hA (by omega)
        refine ⟨by rw [List.length_cons]; omega, fun z hz => ?_⟩
        rcases List.mem_cons.1 hz with rfl | hz
        · show t + s ≤ b.length
          omega
        · exact h2 z hz
/-- What a round knows: what it is handed, and what it was handed ahead, are the first frames. -/
def Got.rdP (b : List UInt8) (pre : List Got) (x : Got) (W : World) : Prop := x.rd W ∧ (pre ++ [x]).map Got.key <+: allF b (b.length + 1) 0
theorem Got.rdP_own (b : List UInt8) (B : Nat) (pre : List Got) : Go.OwnFrom B (Got.rdP b pre) := fun x A B' row h hg hr => ⟨Got.rd_own B x A B' row h.1 hg hr, h.2⟩
theorem abides_below {β : Type} {B : Nat} {J : β → World → Prop} (h : AbidesFrom B J) {s : β} {W W' : World} (hs : J s W) (hb : Below W.heap.size W W') : J s W' :=
  h s W W' none hs (grown_of_below hb none) (fun r e => by cases e)
/-- The blocks from m up to n stay. -/
def Mid (m n : Nat) (V V' : World) : Prop := V.heap.size ≤ V'.heap.size ∧ ∀ k, m ≤ k → k < n → V'.heap[k]? = V.heap[k]?
theorem Mid.refl (m n : Nat) (V : World) : Mid m n V V := ⟨Nat.le_refl _, fun _ _ _ => rfl⟩
theorem Mid.trans {m n : Nat} {A B C : World} (h : Mid m n A B) (k : Mid m n B C) : Mid m n A C := ⟨Nat.le_trans h.1 k.1, fun i h1 h2 => (k.2 i h1 h2).trans (h.2 i h1 h2)⟩
theorem Mid.of_below {m n : Nat} {A B : World} (h : Below A.heap.size A B) (hn : n ≤ A.heap.size) : Mid m n A B := ⟨h.size, fun k _ h2 => h.block k (by omega)⟩
theorem Mid.cell {m n : Nat} {A B : World} (h : Mid m n A B) {p : Addr} (h1 : m ≤ p.block) (h2 : p.block < n) : B.cell? p = A.cell? p := World.cell?_of_block (h.2 _ h1 h2)
theorem Mid.owns {m n : Nat} {A B : World} {v : Value} {l : List UInt8} (h : Mid m n A B) (ho : BOwns A m v l) (hn : ∀ k, v.ownBlock = some k → k < n) : BOwns B m v l := by
  have h2 := (Item.row v l).keep (w := A) (w' := B) (owns_less ho (Nat.zero_le _)) (fun k hk => h.2 k (ho.lt hk).1 (hn k hk))
  refine ⟨h2.1, ?_⟩
  rcases h2.2 with h3 | ⟨g, cap, cur, hv, _, r⟩
  · exact .inl h3
  · exact .inr ⟨g, cap, cur, hv, (ho.lt (by rw [hv]; rfl)).1, r⟩
theorem readF_err {b : List UInt8} {m : Int} (h : readF b = .error m) : ¬ m = 0 := by
  unfold readF at h
  repeat (split at h <;> try (injection h with h; omega))
  cases h
set_option maxRecDepth 100000 in
set_option maxHeartbeats 2000000 in
theorem all1_any {n bx m₀ n₀ c : Nat} {A : Option Addr} {b : List UInt8} (hn : 1 ≤ n) (hl : b.length ≤ 140737488355328) (hc : b.length ≤ c) (l : Nat) (J Jx : List Got → World → Prop) (W : World) (hW0 : n₀ ≤ W.heap.size)
    (hbx : m₀ ≤ bx ∧ bx < n₀) (hcell : W.cell? ⟨bx, 0, none⟩ = some (.slice A b.length c)) (hr : BOwns W m₀ (.slice A b.length c) b) (hrn : ∀ k, (Value.slice A b.length c).ownBlock = some k → k < n₀) (hJ : AbidesFrom W.heap.size J)
    (hY : ∀ pre x V, J pre V → Got.rdP b pre x V → YieldAt Fence.wide (n - 1) Tryz.prog l x.encs V fun e V' => (e = .returned (.bool true) ∧ J (pre ++ [x]) V' ∧ Mid m₀ n₀ V V') ∨ (e = .returned (.bool false) ∧ Jx (pre ++ [x]) V')) (h0 : J [] W) :
    CallsIn Fence.wide n Tryz.prog 145 #[.func (.yield l) #[] #[], .pointer (some ⟨bx, 0, none⟩)] W fun e V => (∃ v, e = .returned v) ∧
      ((∃ xs : List Got, xs.map Got.key = allF b (b.length + 1) 0 ∧ J xs V) ∨ (∃ pre : List Got, pre.map Got.key <+: allF b (b.length + 1) 0 ∧ Jx pre V)) := by
  have HJ := Lib.hid hJ
  have HR := Lib.hid hr
  have HY := Lib.hid hY
  have H0 := Lib.hid h0
  have HC := Lib.hid hcell
  have HW0 := Lib.hid hW0
  have HBX := Lib.hid hbx
  clear hJ hr hY h0 hcell hW0 hbx
  refine callsIn_of_wp Tryz.func145 rfl trivial ?_ rfl
  simp only [Tryz.ntmps145, List.size_toArray, List.length_cons, List.length_nil, Nat.reduceAdd, Nat.reduceSub, Array.replicate_succ, Array.replicate_zero, List.push_toArray, List.append_toArray, List.nil_append, List.cons_append]
  gi_wp2
  gi_loopw [3] (fun t wr => ∃ (T k : Nat) (pre : List Got), t = .int .i64 T ∧ T ≤ b.length ∧ Hid (b.length < T + k) ∧ Hid (pre.map Got.key ++ allF b k T = allF b (b.length + 1) 0) ∧ Hid (J pre wr) ∧ Hid (Mid m₀ n₀ W wr)) (fun t _ => b.length - (intOf t).toNat)
  case atStart => exact ⟨0, b.length + 1, [], rfl, by omega, Lib.hid (by omega), Lib.hid rfl, H0, Lib.hid (Mid.refl _ _ _)⟩
  case round =>
    obtain ⟨T, k, pre, rfl, hT, hk, hpre, hJs, hBW⟩ := hrel
    obtain ⟨k', hk1⟩ : ∃ k', k = k' + 1 := ⟨k - 1, by have := hk.out; omega⟩
    obtain ⟨D, hDe⟩ : ∃ D, D = b.drop T := ⟨_, rfl⟩
    have HDL := Lib.hid (show D.length = b.length - T from by rw [hDe, List.length_drop])
    have hTi : (T : Int) ≤ (b.length : Int) := by omega
    have hTc : (T : Int) ≤ (c : Int) := by omega
    by_cases hcT : c = T
    · have HD := Lib.hid (show BReads wr wr.heap.size A D from by
        have := reads_sub_eq (n := b.length - T) (hBW.out.owns HR.out hrn).reads (by omega) hc hcT
        rwa [List.take_of_length_le (by rw [List.length_drop]; omega), ← hDe] at this)
      have hbT : b.length = T := by omega
      have HDL0 := Lib.hid (show D.length = 0 from by rw [HDL.out]; omega)
      have hx := read_any (c := 0) HD.out (by rw [HDL0.out]; omega) (by rw [HDL0.out]; omega)
      rw [HDL0.out] at hx
      have HX := Lib.hid hx
      clear hx
      have hcx := (hBW.out.cell (p := ⟨bx, 0, none⟩) HBX.out.1 HBX.out.2).trans HC.out
      have hrd : readF D = .error 20 := by unfold readF; rw [if_pos HDL0.out]
      have HF := Lib.hid (show pre.map Got.key = allF b (b.length + 1) 0 from by
        rw [← hpre.out, hk1, allF, ← hDe, hrd]; simp)
      have HRD := Lib.hid hrd
      clear hk1 hDe hrd
      subst hcT
      rw [hbT] at hcx
      gi_wp2_with (refine ⟨trivial, ?_⟩; gi_at_call 146; refine (callsIn_wide.2 HX.out).mono ?_; rw [HRD.out]; rintro e w1 ⟨rfl, hb⟩; have HJ1 := Lib.hid (abides_below HJ.out hJs.out hb); clear hb)
      refine bodyPost_ret (results_none rfl _ _ _) rfl ?_
      exact ⟨⟨_, rfl⟩, .inl ⟨pre, HF.out, HJ1.out⟩⟩
    · have HD := Lib.hid (show BReads wr wr.heap.size (A.map (·.add T)) D from by
        have := reads_sub_ne (n := b.length - T) (hBW.out.owns HR.out hrn).reads (by omega) hc hcT
        rwa [List.take_of_length_le (by rw [List.length_drop]; omega), ← hDe] at this)
      have hx := read_any (c := c - T) HD.out (by rw [HDL.out]; omega) (by rw [HDL.out]; omega)
      rw [HDL.out] at hx
      have HX := Lib.hid hx
      clear hx
      have hcx := (hBW.out.cell (p := ⟨bx, 0, none⟩) HBX.out.1 HBX.out.2).trans HC.out
      cases hrd : readF D with
      | error m =>
        have hm0 := readF_err hrd
        have hmb : (m != 0) = true := by rw [bne_iff_ne]; exact hm0
        have HF := Lib.hid (show pre.map Got.key = allF b (b.length + 1) 0 from by
          rw [← hpre.out, hk1, allF, ← hDe, hrd]; simp)
        clear hm0 hk1 hDe
        gi_wp2_with (refine ⟨trivial, ?_⟩; gi_at_call 146; refine (callsIn_wide.2 HX.out).mono ?_; rw [hrd]; rintro e w1 ⟨rfl, hb⟩; have HJ1 := Lib.hid (abides_below HJ.out hJs.out hb); clear hrd hb)
        refine bodyPost_ret (results_none rfl _ _ _) rfl ?_
        exact ⟨⟨_, rfl⟩, .inl ⟨pre, HF.out, HJ1.out⟩⟩
      | ok x =>
        obtain ⟨p, s⟩ := x
        obtain ⟨hs9, hsl, hps, hp6⟩ := readF_ok hrd
        rw [HDL.out] at hsl
        obtain ⟨T', hT'⟩ : ∃ T', T' = T + s := ⟨_, rfl⟩
        have hsum : (T : Int) + (s : Int) = (T' : Int) := by omega
        have hT'l : T' ≤ b.length := by omega
        have hk' := Lib.hid (show b.length < T' + k' from by have := hk.out; omega)
        have HF := Lib.hid (show ∀ x : Got, x.key = (T', p) → (pre ++ [x]).map Got.key ++ allF b k' T' = allF b (b.length + 1) 0 from by
          intro x hx
          rw [← hpre.out, hk1, allF, ← hDe, hrd, List.map_append, List.append_assoc, hT']
          simp only [List.map_cons, List.map_nil, hx, List.cons_append, List.nil_append, hT'])
        have hlt' : T < T' := by omega
        clear hk1 hDe hsl hs9 hps hT'
        gi_wp2_with (refine ⟨trivial, ?_⟩; gi_at_call 146; refine (callsIn_wide.2 HX.out).mono ?_; rw [hrd]; rintro e w1 ⟨v1, rfl, ho, hb⟩; obtain ⟨A1, c1, rfl, _, hr1⟩ := BOwns.slice ho; have HJ1 := Lib.hid (abides_below HJ.out hJs.out hb); have R1 := Lib.hid hr1; have B1 := Lib.hid (hBW.out.trans (Mid.of_below hb (Nat.le_trans HW0.out hBW.out.1))); obtain ⟨fn, tmps, assign, body, hy, hR⟩ := HY.out pre ⟨T', A1, c1, p⟩ w1 HJ1.out ⟨⟨R1.out, hp6⟩, ⟨_, HF.out ⟨T', A1, c1, p⟩ rfl⟩⟩; unfold Got.encs at hy; simp only at hy; clear hrd hb ho hr1)
        refine hR.mono ?_
        clear hy
        rintro e W3 (⟨rfl, hJ3, hk3⟩ | ⟨rfl, hJx3⟩)
        · have HJ3 := Lib.hid hJ3
          have HB3 := Lib.hid (B1.out.trans hk3)
          have HF2 := Lib.hid (HF.out ⟨T', A1, c1, p⟩ rfl)
          clear hJ3 hk3 HF
          gi_wp2
          exact ⟨⟨T', k', _, rfl, hT'l, hk', HF2, HJ3, HB3⟩, by simp [intOf]; omega⟩
        · have HJ3 := Lib.hid hJx3
          have HF2 := Lib.hid (HF.out ⟨T', A1, c1, p⟩ rfl)
          clear hJx3 HF
          gi_wp2
          refine bodyPost_ret (results_none rfl _ _ _) rfl ?_
          exact ⟨⟨_, rfl⟩, .inr ⟨_, ⟨_, HF2.out⟩, HJ3.out⟩⟩
theorem all_any {w : World} {c : Nat} {A : Option Addr} {b : List UInt8} (hr : BReads w w.heap.size A b) (hl : b.length ≤ 140737488355328) :
    Calls Tryz.prog 90 #[.slice A b.length c] w fun e w' => ∃ A' c', e = .returned (.func (.func 145) #[] #[.pointer (some ⟨w.heap.size, 0, none⟩)]) ∧ w'.cell? ⟨w.heap.size, 0, none⟩ = some (.slice A' b.length c') ∧
      b.length ≤ c' ∧ BOwns w' w.heap.size (.slice A' b.length c') b ∧ w.heap.size < w'.heap.size ∧ Below w.heap.size w w' := by
  have B1 := Lib.hid ((Below.refl w.heap.size w).alloc (Nat.le_refl _) (.cells #[.slice A b.length c] 49))
  have K1 := Lib.hid (Blk.new w 49 #[.slice A b.length c])
  have R1 := Lib.hid ((hr.below B1.out).more B1.out.size)
  have hmf : ∀ (fn : Fn) (first cap : Array Value) (w : World), (Instr.makeFunc fn first cap).run Tryz.prog w = .ok (.func fn first cap) w := fun _ _ _ _ => rfl
  clear hr
  go_enter Tryz.func90, Tryz.ntmps90
  go_wp2_with (at_builtin; refine Stop.of ?_)
  refine ⟨append_bytes (BOwns.nil _ _) (l := []) (m := b) R1.out.src (by simpa using hl) (Nat.le_refl _) rfl rfl rfl rfl ?_⟩
  intro v' w1 hown hg _
  obtain ⟨A1, c1, rfl, hc1, hr1⟩ := BOwns.slice (show BOwns w1 _ v' b from hown)
  have hb := below_of_nil hg
  have KB := Lib.hid (K1.out.below' hb)
  have B2 := Lib.hid (B1.out.trans (hb.mono B1.out.size))
  have HL := Lib.hid K1.out.lt
  have HR := Lib.hid (show BReads w1 w1.heap.size A1 b from hr1)
  have HO := Lib.hid (show BOwns w1 (w.alloc (.cells #[.slice A b.length c] 49)).heap.size (.slice A1 b.length c1) b from hown)
  have HC1 := Lib.hid hc1
  have k0 := KB.out.cell 0
  have f0 := KB.out.frozen 0
  simp only [List.getElem?_toArray, List.getElem?_cons_zero] at k0
  clear hown hg hr1 hc1 hb
  go_wp2
  go_ret
  refine ⟨A1, c1, rfl, World.cell?_setCell_same' _ _ _ (by rw [k0]; rfl), HC1.out, ?_, ?_, B2.out.setCell (Nat.le_refl _) _⟩
  · have hk := (Keeps.refl (fun k => k = w.heap.size) w1).setCell (p := ⟨w.heap.size, 0, none⟩) (.inl rfl) (.slice A1 b.length c1)
    have h2 := (HO.out.keepsB hk (fun k e e' => by have := (HO.out.lt e).1; simp at this; omega))
    exact owns_less h2 (by simp)
  · have := KB.out.lt
    simpa [World.setCell] using this
theorem all_seq {w0 : World} {n bx m₀ c : Nat} {A : Option Addr} {b : List UInt8} (hn : 1 ≤ n) (hl : b.length ≤ 140737488355328) (hc : b.length ≤ c) (hbx : m₀ ≤ bx ∧ bx < w0.heap.size) (hcell : w0.cell? ⟨bx, 0, none⟩ = some (.slice A b.length c)) (hr : BOwns w0 m₀ (.slice A b.length c) b) :
    SeqRd Fence.wide n Tryz.prog 145 #[.pointer (some ⟨bx, 0, none⟩)] Got.encs (Mid m₀ w0.heap.size) (Got.rdP b) (fun xs => xs.map Got.key = allF b (b.length + 1) 0) (fun pre => pre.map Got.key <+: allF b (b.length + 1) 0) w0 :=
  fun l J Jx W hW hJ _ hY h0 => all1_any hn hl hc l J Jx W hW.size hbx ((hW.cell (p := ⟨bx, 0, none⟩) hbx.2).trans hcell) ((Mid.of_below (m := m₀) hW (Nat.le_refl _)).owns hr (fun k hk => (hr.lt hk).2)) (fun k hk => (hr.lt hk).2) hJ hY h0
end Go.Proofs.YtmnpchncmbnddaaGreat
