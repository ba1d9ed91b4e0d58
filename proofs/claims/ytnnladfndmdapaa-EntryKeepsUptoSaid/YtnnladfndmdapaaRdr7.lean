/- The reader's Take at every kind: contracts (printed by a program of this claim's own). -/
import Derived.Test.YtnnladfndmdapaaRdr6
import Derived.Deep.RegionHeld3
namespace Go.Proofs.Ytnnladfndmdapaa
open Go.RowKit
set_option linter.unusedSimpArgs false
theorem take81_any {w : World} {g br bv : Nat} {A : Option Addr} {c : Nat} {l : List UInt8} {at_ : Nat} (HR : RdAt w g A c l at_ 0)
    (h1 : Blk w br 99 #[.pointer (some ⟨g, 0, none⟩)]) (h4 : Blk w bv 135 #[.int .u64 0]) (hgn : g < bv) :
    Calls Try.prog 94 #[.pointer (some ⟨br, 0, none⟩), .pointer (some ⟨bv, 0, none⟩)] w fun e w2 => Keeps (fun k => k = g ∨ k = bv) w w2 ∧
      (e = .returned (.tuple #[]) ∧ (∃ n k, takeF 1 (l.drop at_) = .ok (n, k) ∧ Blk w2 bv 135 #[.int .u64 (n : Nat)] ∧ RdAt w2 g A c l (at_ + k) 0) ∨
        ∃ m, e = gaveUp m ∧ (takeF 1 (l.drop at_) = .error m ∧ Blk w2 bv 135 #[.int .u64 0]) ∧ ∃ at', RdAt w2 g A c l at' 0) := by
  have c1 := h1.cell 0
  simp at c1
  have H4 := Lib.hid h4
  have H := Lib.hid HR
  have HG := Lib.hid hgn
  clear HR h4 hgn
  by_cases hcut : (l.length : Int) - at_ < 1
  · have HN := Lib.hid (show takeF 1 (l.drop at_) = .error 20 from by unfold takeF; rw [if_pos (by rw [List.length_drop]; omega)])
    go_enter Try.func94, Try.ntmps94
    go_wp2_with fail
    refine wp_region_any (by kernel_rfl) ?_
    refine wpAny_take (i := 4) (v := .int .i64 0) rfl (by kernel_rfl) (by kernel_rfl) (by kernel_rfl) (fun _ _ _ h => h) (Or.inl ⟨by rfl, by intro w; go_simp⟩) ?_
    refine wpAny_ready (rs := [0, 1]) (by kernel_rfl) (by simp) ?_
    refine AllReady.cons rfl (fun K hK => ?_) (AllReady.cons rfl (fun K hK => ?_) AllReady.nil)
    · go_simp
      refine hK _ _ ?_
      clear hK K
      refine wpAny_ready (rs := [1]) (by kernel_rfl) (by simp) ?_
      refine AllReady.cons rfl (fun K hK => ?_) AllReady.nil
      go_simp
      refine width8_any.mono ?_
      rintro e w' ⟨rfl, rfl⟩
      refine hK _ _ ?_
      clear hK K
      refine wpAny_ready (rs := [2]) (by kernel_rfl) (by simp) ?_
      refine AllReady.cons rfl (fun K hK => ?_) AllReady.nil
      go_simp
      refine (take_cut H.out.drew 1 hcut).mono ?_
      rintro e w' ⟨rfl, m, rfl⟩
      exact ⟨rfl, ((Keeps.refl _ _).drewN 1).drewN _, .inr ⟨20, rfl, ⟨HN.out, H4.out⟩, _, (H.out.drewN _).drewN _⟩⟩
    · go_simp
      refine width8_any.mono ?_
      rintro e w' ⟨rfl, rfl⟩
      refine hK _ _ ?_
      clear hK K
      refine wpAny_ready (rs := [0]) (by kernel_rfl) (by simp) ?_
      refine AllReady.cons rfl (fun K hK => ?_) AllReady.nil
      go_simp
      refine hK _ _ ?_
      clear hK K
      refine wpAny_ready (rs := [2]) (by kernel_rfl) (by simp) ?_
      refine AllReady.cons rfl (fun K hK => ?_) AllReady.nil
      go_simp
      refine (take_cut H.out.drew 1 hcut).mono ?_
      rintro e w' ⟨rfl, m, rfl⟩
      exact ⟨rfl, ((Keeps.refl _ _).drewN 1).drewN _, .inr ⟨20, rfl, ⟨HN.out, H4.out⟩, _, (H.out.drewN _).drewN _⟩⟩
  · have hle : at_ + 1 ≤ l.length := by omega
    have HN := Lib.hid (show takeF 1 (l.drop at_) = .ok (beVal ((l.drop at_).take 1), 1) from by unfold takeF; rw [if_neg (by rw [List.length_drop]; omega)])
    have H1 := Lib.hid h1
    have hbr : br ≠ g := by
      intro e
      have := H1.out.cell 0
      rw [e, H.out.blk.cell 0] at this
      simp at this
    have HBR := Lib.hid hbr
    clear hbr
    go_enter Try.func94, Try.ntmps94
    go_wp2_with fail
    go_region_held3 (fun w' => w'.cell? ⟨br, 0, none⟩ = some (.pointer (some ⟨g, 0, none⟩))) (first | assumption | go_keep) (first | (go_at_call 91; refine width8_any.mono ?_; rintro e w' ⟨rfl, rfl⟩) | (go_at_call 95; refine (take_ok H.out.drew 1 hle).mono ?_; rintro e w1 ⟨A1, rfl, R1, G1, S1⟩; have c2 := (H1.out.keeps (w := w.drew) (Keeps.of_grown G1.out) (fun e => HBR.out (by injection e))).cell 0; simp at c2))
    have G0 := Lib.hid (Keeps.of_grown G1.out)
    have V0 := Lib.hid (H4.out.keeps (w := w.drew) G0.out (fun e => by have := HG.out; injection e with e; omega))
    have K0 := Lib.hid (show Keeps (fun k => k = g ∨ k = bv) w w1 from ((Keeps.refl _ _).drewN 1).trans G0.out (fun i h => .inl (.inl (by injection h))))
    clear c1 c2
    obtain ⟨p, hp⟩ : ∃ p, p = (l.drop at_).take 1 := ⟨_, rfl⟩
    have hpl : p.length = 1 := by rw [hp, List.length_take, List.length_drop]; omega
    rw [← hp] at S1 HN
    have HPL := Lib.hid hpl
    clear hp hpl
    go_wp2
    go_loopw [8] (fun i wr => ∃ (k : Nat), i = .int .i64 k ∧ k ≤ 1 ∧ Hid (Blk wr bv 135 #[.int .u64 (beVal (p.take k) : Nat)]) ∧ Hid (RdAt wr g A c l (at_ + 1) 0) ∧ Hid (BReads wr g A1 p) ∧ Hid (Keeps (fun k => k = g ∨ k = bv) w wr)) (fun i _ => 1 - (intOf i).toNat)
    case atStart => exact ⟨0, rfl, by omega, V0, R1, S1, K0⟩
    case round =>
      obtain ⟨k, rfl, hk, hV, hR, hS, hK⟩ := hrel
      by_cases hlt : (k : Int) < 1
      · have hkp : k < p.length := by have := HPL.out; omega
        obtain ⟨b1, o1, rfl, _, c1⟩ := hS.out.at_ hkp
        have c2 := hV.out.cell 0
        have f2 := hV.out.frozen 0
        simp only [List.getElem?_toArray, List.getElem?_cons_zero] at c2
        have hbl : (p[k].toNat : Int) < 256 := by have := p[k].toNat_lt; omega
        have hk0 : (0 : Int) ≤ (k : Int) := by omega
        obtain ⟨b, hb⟩ : ∃ b, b = p[k] := ⟨_, rfl⟩
        rw [← hb] at c1 hbl
        obtain ⟨V, hVe⟩ : ∃ V, V = beVal (p.take k) := ⟨_, rfl⟩
        rw [← hVe] at c2
        have hV7 : V < 256 ^ 7 := by
          rw [hVe]
          have := beVal_lt p k
          have h7 : 256 ^ k ≤ 256 ^ 7 := Nat.pow_le_pow_right (by omega) (by omega)
          omega
        have E1 := wrap_mul256 V hV7
        obtain ⟨V', hV'⟩ : ∃ V', V' = V * 256 + b.toNat := ⟨_, rfl⟩
        have E2 : bits .or .u64 ((V : Int) * 256) (b.toNat : Int) = (V' : Int) := by
          rw [hV']; exact or_byte' V b hV7
        have HV' := Lib.hid (show beVal (p.take (k + 1)) = V' from by rw [beVal_take hkp, ← hVe, ← hb, hV'])
        clear hb hVe hV7 hV'
        go_wp2
        have VB := Lib.hid (hV.out.set_ 0 (.int .u64 (V' : Int)))
        have KB : Keeps (fun i => i = bv) wr (wr.setCell ⟨bv, 0, none⟩ (.int .u64 (V' : Int))) := (Keeps.refl (fun i => i = bv) wr).setCell (.inl rfl) _
        have hgn := HG.out
        go_roundw
        case rel => exact ⟨k + 1, by go_num, by omega, Lib.hid (by rw [HV'.out]; simpa using VB.out), Lib.hid (hR.out.keeps KB (fun i h => by omega)), Lib.hid (hS.out.below (KB.below (Nat.le_of_lt hR.out.blk.lt) (fun i h => by omega))), Lib.hid (hK.out.trans KB (fun i h => .inl (.inr h)))⟩
        case measure => simp [intOf]; omega
      · go_wp2
        go_end0
        obtain rfl : k = 1 := by omega
        have e2 : p.take 1 = p := List.take_of_length_le (by rw [HPL.out]; exact Nat.le_refl _)
        refine ⟨hK.out, .inl ⟨rfl, _, _, HN.out, ?_, hR.out⟩⟩
        rw [← e2]; exact hV.out

theorem enterTake8 (caps : Array Value) (w : World) : (callFunc 94 caps).run Try.prog w = .ok (.enter 94 caps) w :=
  callFunc_enter 94 Try.f94 _ Try.func94 rfl (by kernel_rfl) caps w
theorem rdTake8_any {w : World} {g : Nat} {r : Rd} (h : RdIs w g r) :
    Calls Try.prog 66 #[.pointer (some ⟨g, 0, none⟩)] w (RdPost w g (r.take 1) (AnsK .u8)) := by
  obtain ⟨A, c, HR⟩ := h
  have hmf : ∀ (fn : Fn) (first cap : Array Value) (w : World), (Instr.makeFunc fn first cap).run Try.prog w = .ok (.func fn first cap) w := fun _ _ _ _ => rfl
  have H := Lib.hid HR
  clear HR
  go_enter Try.func66, Try.ntmps66
  go_wp2_with fail
  obtain ⟨W1, hW1⟩ : ∃ x, x = w.alloc (.cells #[.pointer (some ⟨g, 0, none⟩)] 99) := ⟨_, rfl⟩
  obtain ⟨W2, hW2⟩ : ∃ x, x = W1.alloc (.cells #[.int .u64 0] 135) := ⟨_, rfl⟩
  have s1 : W1.heap.size = w.heap.size + 1 := by rw [hW1]; simp
  have Rn : RdAt W2 g A c r.l r.at_ r.f := by rw [hW2, hW1]; exact (H.out.alloc _).alloc _
  have k1 : Blk W2 (w.heap.size) 99 #[.pointer (some ⟨g, 0, none⟩)] := by rw [hW2, hW1]; exact (Blk.new _ _ _).alloc _
  have k2 : Blk W2 (w.heap.size + 1) 135 #[.int .u64 0] := by rw [← s1, hW2]; exact Blk.new _ _ _
  have Kn : Keeps (fun k => k = g) w W2 := by rw [hW2, hW1]; exact ((Keeps.refl _ _).alloc _).alloc _
  have hszn : w.heap.size ≤ W2.heap.size := Kn.size
  have hg := H.out.blk.lt
  rw [← hW1, ← hW2]
  clear hW1 hW2 s1
  by_cases hf : r.f = 0
  · rw [hf] at Rn
    have HF := Lib.hid hf
    clear hf
    refine (reading_any Rn 94 _ (fun k => k = g ∨ k = w.heap.size + 1) (fun k hk => by have := k2.lt; rcases hk with rfl | rfl <;> omega) (.inl rfl) (enterTake8 _)
      (fun w2 => ∃ n k, takeF 1 (r.l.drop r.at_) = .ok (n, k) ∧ Blk w2 (w.heap.size + 1) 135 #[.int .u64 (n : Nat)] ∧ RdAt w2 g A c r.l (r.at_ + k) 0)
      (fun m w2 => takeF 1 (r.l.drop r.at_) = .error m ∧ Blk w2 (w.heap.size + 1) 135 #[.int .u64 0])
      (fun w1 hb => take81_any (Rn.below hb) (k1.below' hb) (k2.below' hb) (by omega))).mono ?_
    rintro e w5 ⟨rfl, hk, h⟩
    have K5 := Lib.hid (Kn.trans hk (fun i hi => hi.elim (fun h => .inl h) (fun h => .inr (by omega))))
    clear hk Rn k1 k2 Kn hszn
    rcases h with ⟨n, k, hn, hb, hr⟩ | ⟨m, w2, ⟨hn, hb⟩, hk2, rfl, at', hr⟩
    · have R5 := Lib.hid hr
      have HN := Lib.hid hn
      have hlt : (n : Int) < 256 := by have := (takeF_lt hn).1; omega
      have c1 := hb.cell 0
      simp at c1
      clear hn hb hr
      go_wp2
      go_ret
      refine ⟨?_, ⟨A, c, ?_⟩, K5.out⟩ <;> (simp only [Rd.int, Rd.bytes, Rd.take, Rd.step, HF.out, HN.out, if_true])
      · rfl
      · exact R5.out
    · have R5 := Lib.hid (hr.faulted r.at_ H.out.le m)
      have HN := Lib.hid hn
      have c1 := ((hb.far (p := ⟨g, 1, none⟩) (by simp; omega) (.int .i64 r.at_)).far (p := ⟨g, 2, none⟩) (by simp; omega) (.int .i64 m)).cell 0
      simp only [List.getElem?_toArray, List.getElem?_cons_zero] at c1
      obtain ⟨w6, hw6⟩ : ∃ x, x = (w2.setCell ⟨g, 1, none⟩ (.int .i64 r.at_)).setCell ⟨g, 2, none⟩ (.int .i64 m) := ⟨_, rfl⟩
      rw [← hw6] at R5 c1 K5 ⊢
      clear hn hb hr hk2 hw6
      go_wp2
      go_ret
      refine ⟨?_, ⟨A, c, ?_⟩, K5.out⟩ <;> (simp only [Rd.int, Rd.bytes, Rd.take, Rd.step, HF.out, HN.out, if_true])
      · rfl
      · exact R5.out
  · refine (reading_fault Rn hf _).mono ?_
    rintro e w5 ⟨rfl, hb⟩
    have c1 := (k2.below' hb).cell 0
    simp at c1
    have R5 := Lib.hid (Rn.below hb)
    have K5 := Lib.hid (Kn.trans (Keeps.of_below hb (fun _ => False)) (fun _ h => h.elim))
    have HF := Lib.hid hf
    clear hb Rn k1 k2 Kn hf hszn
    go_wp2
    go_ret
    refine ⟨?_, ⟨A, c, ?_⟩, K5.out⟩ <;> (simp only [Rd.int, Rd.bytes, Rd.take, Rd.step, if_neg HF.out])
    · rfl
    · exact R5.out
theorem take321_any {w : World} {g br bv : Nat} {A : Option Addr} {c : Nat} {l : List UInt8} {at_ : Nat} (HR : RdAt w g A c l at_ 0)
    (h1 : Blk w br 99 #[.pointer (some ⟨g, 0, none⟩)]) (h4 : Blk w bv 135 #[.int .u64 0]) (hgn : g < bv) :
    Calls Try.prog 122 #[.pointer (some ⟨br, 0, none⟩), .pointer (some ⟨bv, 0, none⟩)] w fun e w2 => Keeps (fun k => k = g ∨ k = bv) w w2 ∧
      (e = .returned (.tuple #[]) ∧ (∃ n k, takeF 4 (l.drop at_) = .ok (n, k) ∧ Blk w2 bv 135 #[.int .u64 (n : Nat)] ∧ RdAt w2 g A c l (at_ + k) 0) ∨
        ∃ m, e = gaveUp m ∧ (takeF 4 (l.drop at_) = .error m ∧ Blk w2 bv 135 #[.int .u64 0]) ∧ ∃ at', RdAt w2 g A c l at' 0) := by
  have c1 := h1.cell 0
  simp at c1
  have H4 := Lib.hid h4
  have H := Lib.hid HR
  have HG := Lib.hid hgn
  clear HR h4 hgn
  by_cases hcut : (l.length : Int) - at_ < 4
  · have HN := Lib.hid (show takeF 4 (l.drop at_) = .error 20 from by unfold takeF; rw [if_pos (by rw [List.length_drop]; omega)])
    go_enter Try.func122, Try.ntmps122
    go_wp2_with fail
    refine wp_region_any (by kernel_rfl) ?_
    refine wpAny_take (i := 4) (v := .int .i64 0) rfl (by kernel_rfl) (by kernel_rfl) (by kernel_rfl) (fun _ _ _ h => h) (Or.inl ⟨by rfl, by intro w; go_simp⟩) ?_
    refine wpAny_ready (rs := [0, 1]) (by kernel_rfl) (by simp) ?_
    refine AllReady.cons rfl (fun K hK => ?_) (AllReady.cons rfl (fun K hK => ?_) AllReady.nil)
    · go_simp
      refine hK _ _ ?_
      clear hK K
      refine wpAny_ready (rs := [1]) (by kernel_rfl) (by simp) ?_
      refine AllReady.cons rfl (fun K hK => ?_) AllReady.nil
      go_simp
      refine width32_any.mono ?_
      rintro e w' ⟨rfl, rfl⟩
      refine hK _ _ ?_
      clear hK K
      refine wpAny_ready (rs := [2]) (by kernel_rfl) (by simp) ?_
      refine AllReady.cons rfl (fun K hK => ?_) AllReady.nil
      go_simp
      refine (take_cut H.out.drew 4 hcut).mono ?_
      rintro e w' ⟨rfl, m, rfl⟩
      exact ⟨rfl, ((Keeps.refl _ _).drewN 1).drewN _, .inr ⟨20, rfl, ⟨HN.out, H4.out⟩, _, (H.out.drewN _).drewN _⟩⟩
    · go_simp
      refine width32_any.mono ?_
      rintro e w' ⟨rfl, rfl⟩
      refine hK _ _ ?_
      clear hK K
      refine wpAny_ready (rs := [0]) (by kernel_rfl) (by simp) ?_
      refine AllReady.cons rfl (fun K hK => ?_) AllReady.nil
      go_simp
      refine hK _ _ ?_
      clear hK K
      refine wpAny_ready (rs := [2]) (by kernel_rfl) (by simp) ?_
      refine AllReady.cons rfl (fun K hK => ?_) AllReady.nil
      go_simp
      refine (take_cut H.out.drew 4 hcut).mono ?_
      rintro e w' ⟨rfl, m, rfl⟩
      exact ⟨rfl, ((Keeps.refl _ _).drewN 1).drewN _, .inr ⟨20, rfl, ⟨HN.out, H4.out⟩, _, (H.out.drewN _).drewN _⟩⟩
  · have hle : at_ + 4 ≤ l.length := by omega
    have HN := Lib.hid (show takeF 4 (l.drop at_) = .ok (beVal ((l.drop at_).take 4), 4) from by unfold takeF; rw [if_neg (by rw [List.length_drop]; omega)])
    have H1 := Lib.hid h1
    have hbr : br ≠ g := by
      intro e
      have := H1.out.cell 0
      rw [e, H.out.blk.cell 0] at this
      simp at this
    have HBR := Lib.hid hbr
    clear hbr
    go_enter Try.func122, Try.ntmps122
    go_wp2_with fail
    go_region_held3 (fun w' => w'.cell? ⟨br, 0, none⟩ = some (.pointer (some ⟨g, 0, none⟩))) (first | assumption | go_keep) (first | (go_at_call 118; refine width32_any.mono ?_; rintro e w' ⟨rfl, rfl⟩) | (go_at_call 95; refine (take_ok H.out.drew 4 hle).mono ?_; rintro e w1 ⟨A1, rfl, R1, G1, S1⟩; have c2 := (H1.out.keeps (w := w.drew) (Keeps.of_grown G1.out) (fun e => HBR.out (by injection e))).cell 0; simp at c2))
    have G0 := Lib.hid (Keeps.of_grown G1.out)
    have V0 := Lib.hid (H4.out.keeps (w := w.drew) G0.out (fun e => by have := HG.out; injection e with e; omega))
    have K0 := Lib.hid (show Keeps (fun k => k = g ∨ k = bv) w w1 from ((Keeps.refl _ _).drewN 1).trans G0.out (fun i h => .inl (.inl (by injection h))))
    clear c1 c2
    obtain ⟨p, hp⟩ : ∃ p, p = (l.drop at_).take 4 := ⟨_, rfl⟩
    have hpl : p.length = 4 := by rw [hp, List.length_take, List.length_drop]; omega
    rw [← hp] at S1 HN
    have HPL := Lib.hid hpl
    clear hp hpl
    go_wp2
    go_loopw [8] (fun i wr => ∃ (k : Nat), i = .int .i64 k ∧ k ≤ 4 ∧ Hid (Blk wr bv 135 #[.int .u64 (beVal (p.take k) : Nat)]) ∧ Hid (RdAt wr g A c l (at_ + 4) 0) ∧ Hid (BReads wr g A1 p) ∧ Hid (Keeps (fun k => k = g ∨ k = bv) w wr)) (fun i _ => 4 - (intOf i).toNat)
    case atStart => exact ⟨0, rfl, by omega, V0, R1, S1, K0⟩
    case round =>
      obtain ⟨k, rfl, hk, hV, hR, hS, hK⟩ := hrel
      by_cases hlt : (k : Int) < 4
      · have hkp : k < p.length := by have := HPL.out; omega
        obtain ⟨b1, o1, rfl, _, c1⟩ := hS.out.at_ hkp
        have c2 := hV.out.cell 0
        have f2 := hV.out.frozen 0
        simp only [List.getElem?_toArray, List.getElem?_cons_zero] at c2
        have hbl : (p[k].toNat : Int) < 256 := by have := p[k].toNat_lt; omega
        have hk0 : (0 : Int) ≤ (k : Int) := by omega
        obtain ⟨b, hb⟩ : ∃ b, b = p[k] := ⟨_, rfl⟩
        rw [← hb] at c1 hbl
        obtain ⟨V, hVe⟩ : ∃ V, V = beVal (p.take k) := ⟨_, rfl⟩
        rw [← hVe] at c2
        have hV7 : V < 256 ^ 7 := by
          rw [hVe]
          have := beVal_lt p k
          have h7 : 256 ^ k ≤ 256 ^ 7 := Nat.pow_le_pow_right (by omega) (by omega)
          omega
        have E1 := wrap_mul256 V hV7
        obtain ⟨V', hV'⟩ : ∃ V', V' = V * 256 + b.toNat := ⟨_, rfl⟩
        have E2 : bits .or .u64 ((V : Int) * 256) (b.toNat : Int) = (V' : Int) := by
          rw [hV']; exact or_byte' V b hV7
        have HV' := Lib.hid (show beVal (p.take (k + 1)) = V' from by rw [beVal_take hkp, ← hVe, ← hb, hV'])
        clear hb hVe hV7 hV'
        go_wp2
        have VB := Lib.hid (hV.out.set_ 0 (.int .u64 (V' : Int)))
        have KB : Keeps (fun i => i = bv) wr (wr.setCell ⟨bv, 0, none⟩ (.int .u64 (V' : Int))) := (Keeps.refl (fun i => i = bv) wr).setCell (.inl rfl) _
        have hgn := HG.out
        go_roundw
        case rel => exact ⟨k + 1, by go_num, by omega, Lib.hid (by rw [HV'.out]; simpa using VB.out), Lib.hid (hR.out.keeps KB (fun i h => by omega)), Lib.hid (hS.out.below (KB.below (Nat.le_of_lt hR.out.blk.lt) (fun i h => by omega))), Lib.hid (hK.out.trans KB (fun i h => .inl (.inr h)))⟩
        case measure => simp [intOf]; omega
      · go_wp2
        go_end0
        obtain rfl : k = 4 := by omega
        have e2 : p.take 4 = p := List.take_of_length_le (by rw [HPL.out]; exact Nat.le_refl _)
        refine ⟨hK.out, .inl ⟨rfl, _, _, HN.out, ?_, hR.out⟩⟩
        rw [← e2]; exact hV.out

theorem enterTake32 (caps : Array Value) (w : World) : (callFunc 122 caps).run Try.prog w = .ok (.enter 122 caps) w :=
  callFunc_enter 122 Try.f122 _ Try.func122 rfl (by kernel_rfl) caps w
theorem rdTake32_any {w : World} {g : Nat} {r : Rd} (h : RdIs w g r) :
    Calls Try.prog 120 #[.pointer (some ⟨g, 0, none⟩)] w (RdPost w g (r.take 4) (AnsK .u32)) := by
  obtain ⟨A, c, HR⟩ := h
  have hmf : ∀ (fn : Fn) (first cap : Array Value) (w : World), (Instr.makeFunc fn first cap).run Try.prog w = .ok (.func fn first cap) w := fun _ _ _ _ => rfl
  have H := Lib.hid HR
  clear HR
  go_enter Try.func120, Try.ntmps120
  go_wp2_with fail
  obtain ⟨W1, hW1⟩ : ∃ x, x = w.alloc (.cells #[.pointer (some ⟨g, 0, none⟩)] 99) := ⟨_, rfl⟩
  obtain ⟨W2, hW2⟩ : ∃ x, x = W1.alloc (.cells #[.int .u64 0] 135) := ⟨_, rfl⟩
  have s1 : W1.heap.size = w.heap.size + 1 := by rw [hW1]; simp
  have Rn : RdAt W2 g A c r.l r.at_ r.f := by rw [hW2, hW1]; exact (H.out.alloc _).alloc _
  have k1 : Blk W2 (w.heap.size) 99 #[.pointer (some ⟨g, 0, none⟩)] := by rw [hW2, hW1]; exact (Blk.new _ _ _).alloc _
  have k2 : Blk W2 (w.heap.size + 1) 135 #[.int .u64 0] := by rw [← s1, hW2]; exact Blk.new _ _ _
  have Kn : Keeps (fun k => k = g) w W2 := by rw [hW2, hW1]; exact ((Keeps.refl _ _).alloc _).alloc _
  have hszn : w.heap.size ≤ W2.heap.size := Kn.size
  have hg := H.out.blk.lt
  rw [← hW1, ← hW2]
  clear hW1 hW2 s1
  by_cases hf : r.f = 0
  · rw [hf] at Rn
    have HF := Lib.hid hf
    clear hf
    refine (reading_any Rn 122 _ (fun k => k = g ∨ k = w.heap.size + 1) (fun k hk => by have := k2.lt; rcases hk with rfl | rfl <;> omega) (.inl rfl) (enterTake32 _)
      (fun w2 => ∃ n k, takeF 4 (r.l.drop r.at_) = .ok (n, k) ∧ Blk w2 (w.heap.size + 1) 135 #[.int .u64 (n : Nat)] ∧ RdAt w2 g A c r.l (r.at_ + k) 0)
      (fun m w2 => takeF 4 (r.l.drop r.at_) = .error m ∧ Blk w2 (w.heap.size + 1) 135 #[.int .u64 0])
      (fun w1 hb => take321_any (Rn.below hb) (k1.below' hb) (k2.below' hb) (by omega))).mono ?_
    rintro e w5 ⟨rfl, hk, h⟩
    have K5 := Lib.hid (Kn.trans hk (fun i hi => hi.elim (fun h => .inl h) (fun h => .inr (by omega))))
    clear hk Rn k1 k2 Kn hszn
    rcases h with ⟨n, k, hn, hb, hr⟩ | ⟨m, w2, ⟨hn, hb⟩, hk2, rfl, at', hr⟩
    · have R5 := Lib.hid hr
      have HN := Lib.hid hn
      have hlt : (n : Int) < 4294967296 := by have := (takeF_lt hn).1; omega
      have c1 := hb.cell 0
      simp at c1
      clear hn hb hr
      go_wp2
      go_ret
      refine ⟨?_, ⟨A, c, ?_⟩, K5.out⟩ <;> (simp only [Rd.int, Rd.bytes, Rd.take, Rd.step, HF.out, HN.out, if_true])
      · rfl
      · exact R5.out
    · have R5 := Lib.hid (hr.faulted r.at_ H.out.le m)
      have HN := Lib.hid hn
      have c1 := ((hb.far (p := ⟨g, 1, none⟩) (by simp; omega) (.int .i64 r.at_)).far (p := ⟨g, 2, none⟩) (by simp; omega) (.int .i64 m)).cell 0
      simp only [List.getElem?_toArray, List.getElem?_cons_zero] at c1
      obtain ⟨w6, hw6⟩ : ∃ x, x = (w2.setCell ⟨g, 1, none⟩ (.int .i64 r.at_)).setCell ⟨g, 2, none⟩ (.int .i64 m) := ⟨_, rfl⟩
      rw [← hw6] at R5 c1 K5 ⊢
      clear hn hb hr hk2 hw6
      go_wp2
      go_ret
      refine ⟨?_, ⟨A, c, ?_⟩, K5.out⟩ <;> (simp only [Rd.int, Rd.bytes, Rd.take, Rd.step, HF.out, HN.out, if_true])
      · rfl
      · exact R5.out
  · refine (reading_fault Rn hf _).mono ?_
    rintro e w5 ⟨rfl, hb⟩
    have c1 := (k2.below' hb).cell 0
    simp at c1
    have R5 := Lib.hid (Rn.below hb)
    have K5 := Lib.hid (Kn.trans (Keeps.of_below hb (fun _ => False)) (fun _ h => h.elim))
    have HF := Lib.hid hf
    clear hb Rn k1 k2 Kn hf hszn
    go_wp2
    go_ret
    refine ⟨?_, ⟨A, c, ?_⟩, K5.out⟩ <;> (simp only [Rd.int, Rd.bytes, Rd.take, Rd.step, if_neg HF.out])
    · rfl
    · exact R5.out
end Go.Proofs.Ytnnladfndmdapaa
