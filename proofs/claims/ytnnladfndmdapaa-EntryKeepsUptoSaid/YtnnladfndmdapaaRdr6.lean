/- The reader's methods Int, Bytes, Text, Take: contracts against the plain reader (printed by a program of this claim's own). -/
import Derived.Test.YtnnladfndmdapaaRdr5
import Derived.Deep.LoopGhost
namespace Go.Proofs.Ytnnladfndmdapaa
open Go.RowKit
set_option linter.unusedSimpArgs false

theorem enterInt (caps : Array Value) (w : World) : (callFunc 98 caps).run Try.prog w = .ok (.enter 98 caps) w :=
  callFunc_enter 98 Try.f98 _ Try.func98 rfl (by kernel_rfl) caps w
theorem rdInt_any {w : World} {g : Nat} {r : Rd} (h : RdIs w g r) (low : Int) (high : Int) :
    Calls Try.prog 68 #[.pointer (some ⟨g, 0, none⟩), .int .i64 low, .int .i64 high] w (RdPost w g (r.int low high) (AnsInt)) := by
  obtain ⟨A, c, HR⟩ := h
  have hmf : ∀ (fn : Fn) (first cap : Array Value) (w : World), (Instr.makeFunc fn first cap).run Try.prog w = .ok (.func fn first cap) w := fun _ _ _ _ => rfl
  have H := Lib.hid HR
  clear HR
  go_enter Try.func68, Try.ntmps68
  go_wp2_with fail
  obtain ⟨W1, hW1⟩ : ∃ x, x = w.alloc (.cells #[.pointer (some ⟨g, 0, none⟩)] 99) := ⟨_, rfl⟩
  obtain ⟨W2, hW2⟩ : ∃ x, x = W1.alloc (.cells #[.int .i64 low] 3) := ⟨_, rfl⟩
  obtain ⟨W3, hW3⟩ : ∃ x, x = W2.alloc (.cells #[.int .i64 high] 3) := ⟨_, rfl⟩
  obtain ⟨W4, hW4⟩ : ∃ x, x = W3.alloc (.cells #[.int .i64 0] 3) := ⟨_, rfl⟩
  have s1 : W1.heap.size = w.heap.size + 1 := by rw [hW1]; simp
  have s2 : W2.heap.size = w.heap.size + 1 + 1 := by rw [hW2]; simp; omega
  have s3 : W3.heap.size = w.heap.size + 1 + 1 + 1 := by rw [hW3]; simp; omega
  have Rn : RdAt W4 g A c r.l r.at_ r.f := by rw [hW4, hW3, hW2, hW1]; exact (((H.out.alloc _).alloc _).alloc _).alloc _
  have k1 : Blk W4 (w.heap.size) 99 #[.pointer (some ⟨g, 0, none⟩)] := by rw [hW4, hW3, hW2, hW1]; exact (((Blk.new _ _ _).alloc _).alloc _).alloc _
  have k2 : Blk W4 (w.heap.size + 1) 3 #[.int .i64 low] := by rw [← s1, hW4, hW3, hW2]; exact ((Blk.new _ _ _).alloc _).alloc _
  have k3 : Blk W4 (w.heap.size + 1 + 1) 3 #[.int .i64 high] := by rw [← s2, hW4, hW3]; exact (Blk.new _ _ _).alloc _
  have k4 : Blk W4 (w.heap.size + 1 + 1 + 1) 3 #[.int .i64 0] := by rw [← s3, hW4]; exact Blk.new _ _ _
  have Kn : Keeps (fun k => k = g) w W4 := by rw [hW4, hW3, hW2, hW1]; exact ((((Keeps.refl _ _).alloc _).alloc _).alloc _).alloc _
  have hszn : w.heap.size ≤ W4.heap.size := Kn.size
  have hg := H.out.blk.lt
  rw [← hW1, ← hW2, ← hW3, ← hW4]
  clear hW1 hW2 hW3 hW4 s1 s2 s3
  by_cases hf : r.f = 0
  · rw [hf] at Rn
    have HF := Lib.hid hf
    clear hf
    refine (reading_any Rn 98 _ (fun k => k = g ∨ k = w.heap.size + 1 + 1 + 1) (fun k hk => by have := k4.lt; rcases hk with rfl | rfl <;> omega) (.inl rfl) (enterInt _)
      (fun w2 => ∃ n k, numberF low high (r.l.drop r.at_) = .ok (n, k) ∧ Blk w2 (w.heap.size + 1 + 1 + 1) 3 #[.int .i64 n] ∧ RdAt w2 g A c r.l (r.at_ + k) 0)
      (fun m w2 => numberF low high (r.l.drop r.at_) = .error m ∧ Blk w2 (w.heap.size + 1 + 1 + 1) 3 #[.int .i64 0])
      (fun w1 hb => int1_any (Rn.below hb) (k1.below' hb) (k2.below' hb) (k3.below' hb) (k4.below' hb) (by omega))).mono ?_
    rintro e w5 ⟨rfl, hk, h⟩
    have K5 := Lib.hid (Kn.trans hk (fun i hi => hi.elim (fun h => .inl h) (fun h => .inr (by omega))))
    clear hk Rn k1 k2 k3 k4 Kn hszn
    rcases h with ⟨n, k, hn, hb, hr⟩ | ⟨m, w2, ⟨hn, hb⟩, hk2, rfl, at', hr⟩
    · have R5 := Lib.hid hr
      have HN := Lib.hid hn
      have c1 := hb.cell 0
      simp at c1
      clear hn hb hr
      go_wp2
      go_ret
      refine ⟨?_, ⟨A, c, ?_⟩, K5.out⟩ <;> (simp only [Rd.int, Rd.bytes, Rd.take, Rd.step, HF.out, HN.out, if_true])
      · rfl
      · exact R5.out
    · have R5 := Lib.hid (hr.faulted r.at_ H.out.le m)
      have HN := Lib.hid hn
      have c1 := ((hb.far (p := ⟨g, 1, none⟩) (by simp; omega) (.int .i64 r.at_)).far (p := ⟨g, 2, none⟩) (by simp; omega) (.int .i64 m)).cell 0
      simp only [List.getElem?_toArray, List.getElem?_cons_zero] at c1
      obtain ⟨w6, hw6⟩ : ∃ x, x = (w2.setCell ⟨g, 1, none⟩ (.int .i64 r.at_)).setCell ⟨g, 2, none⟩ (.int .i64 m) := ⟨_, rfl⟩
      rw [← hw6] at R5 c1 K5 ⊢
      clear hn hb hr hk2 hw6
      go_wp2
      go_ret
      refine ⟨?_, ⟨A, c, ?_⟩, K5.out⟩ <;> (simp only [Rd.int, Rd.bytes, Rd.take, Rd.step, HF.out, HN.out, if_true])
      · rfl
      · exact R5.out
  · refine (reading_fault Rn hf _).mono ?_
    rintro e w5 ⟨rfl, hb⟩
    have c1 := (k4.below' hb).cell 0
    simp at c1
    have R5 := Lib.hid (Rn.below hb)
    have K5 := Lib.hid (Kn.trans (Keeps.of_below hb (fun _ => False)) (fun _ h => h.elim))
    have HF := Lib.hid hf
    clear hb Rn k1 k2 k3 k4 Kn hf hszn
    go_wp2
    go_ret
    refine ⟨?_, ⟨A, c, ?_⟩, K5.out⟩ <;> (simp only [Rd.int, Rd.bytes, Rd.take, Rd.step, if_neg HF.out])
    · rfl
    · exact R5.out
theorem enterBytes (caps : Array Value) (w : World) : (callFunc 100 caps).run Try.prog w = .ok (.enter 100 caps) w :=
  callFunc_enter 100 Try.f100 _ Try.func100 rfl (by kernel_rfl) caps w
theorem rdBytes_any {w : World} {g : Nat} {r : Rd} (h : RdIs w g r) (most : Int) :
    Calls Try.prog 69 #[.pointer (some ⟨g, 0, none⟩), .int .i64 most] w (RdPost w g (r.bytes most) (AnsBytes w)) := by
  obtain ⟨A, c, HR⟩ := h
  have hmf : ∀ (fn : Fn) (first cap : Array Value) (w : World), (Instr.makeFunc fn first cap).run Try.prog w = .ok (.func fn first cap) w := fun _ _ _ _ => rfl
  have H := Lib.hid HR
  clear HR
  go_enter Try.func69, Try.ntmps69
  go_wp2_with fail
  obtain ⟨W1, hW1⟩ : ∃ x, x = w.alloc (.cells #[.pointer (some ⟨g, 0, none⟩)] 99) := ⟨_, rfl⟩
  obtain ⟨W2, hW2⟩ : ∃ x, x = W1.alloc (.cells #[.int .i64 most] 3) := ⟨_, rfl⟩
  obtain ⟨W3, hW3⟩ : ∃ x, x = W2.alloc (.cells #[.slice none 0 0] 23) := ⟨_, rfl⟩
  have s1 : W1.heap.size = w.heap.size + 1 := by rw [hW1]; simp
  have s2 : W2.heap.size = w.heap.size + 1 + 1 := by rw [hW2]; simp; omega
  have Rn : RdAt W3 g A c r.l r.at_ r.f := by rw [hW3, hW2, hW1]; exact ((H.out.alloc _).alloc _).alloc _
  have k1 : Blk W3 (w.heap.size) 99 #[.pointer (some ⟨g, 0, none⟩)] := by rw [hW3, hW2, hW1]; exact ((Blk.new _ _ _).alloc _).alloc _
  have k2 : Blk W3 (w.heap.size + 1) 3 #[.int .i64 most] := by rw [← s1, hW3, hW2]; exact (Blk.new _ _ _).alloc _
  have k3 : Blk W3 (w.heap.size + 1 + 1) 23 #[.slice none 0 0] := by rw [← s2, hW3]; exact Blk.new _ _ _
  have Kn : Keeps (fun k => k = g) w W3 := by rw [hW3, hW2, hW1]; exact (((Keeps.refl _ _).alloc _).alloc _).alloc _
  have hszn : w.heap.size ≤ W3.heap.size := Kn.size
  have hg := H.out.blk.lt
  rw [← hW1, ← hW2, ← hW3]
  clear hW1 hW2 hW3 s1 s2
  by_cases hf : r.f = 0
  · rw [hf] at Rn
    have HF := Lib.hid hf
    clear hf
    refine (reading_any Rn 100 _ (fun k => k = g ∨ k = w.heap.size + 1 + 1) (fun k hk => by have := k3.lt; rcases hk with rfl | rfl <;> omega) (.inl rfl) (enterBytes _)
      (fun w2 => ∃ n k, blockF most (r.l.drop r.at_) = .ok (n, k) ∧ (∃ v, Blk w2 (w.heap.size + 1 + 1) 23 #[v] ∧ BOwns w2 w.heap.size v n) ∧ RdAt w2 g A c r.l (r.at_ + k) 0)
      (fun m w2 => blockF most (r.l.drop r.at_) = .error m ∧ Blk w2 (w.heap.size + 1 + 1) 23 #[.slice none 0 0])
      (fun w1 hb => (bytes1_any (Rn.below hb) (k1.below' hb) (k2.below' hb) (k3.below' hb) (by omega)).mono (fun e w2 ⟨a, b⟩ => ⟨a, b.imp (fun ⟨x, n, k, y, ⟨v, z1, z2⟩, u⟩ => ⟨x, n, k, y, ⟨v, z1, owns_less z2 (Nat.le_trans hszn hb.size)⟩, u⟩) (fun x => x)⟩))).mono ?_
    rintro e w5 ⟨rfl, hk, h⟩
    have K5 := Lib.hid (Kn.trans hk (fun i hi => hi.elim (fun h => .inl h) (fun h => .inr (by omega))))
    clear hk Rn k1 k2 k3 Kn hszn
    rcases h with ⟨n, k, hn, ⟨v, hb, hown⟩, hr⟩ | ⟨m, w2, ⟨hn, hb⟩, hk2, rfl, at', hr⟩
    · have R5 := Lib.hid hr
      have HN := Lib.hid hn
      have c1 := hb.cell 0
      simp at c1
      have HO := Lib.hid hown
      clear hn hb hr hown
      go_wp2
      go_ret
      refine ⟨?_, ⟨A, c, ?_⟩, K5.out⟩ <;> (simp only [Rd.int, Rd.bytes, Rd.take, Rd.step, HF.out, HN.out, if_true])
      · exact ⟨_, rfl, HO.out⟩
      · exact R5.out
    · have R5 := Lib.hid (hr.faulted r.at_ H.out.le m)
      have HN := Lib.hid hn
      have c1 := ((hb.far (p := ⟨g, 1, none⟩) (by simp; omega) (.int .i64 r.at_)).far (p := ⟨g, 2, none⟩) (by simp; omega) (.int .i64 m)).cell 0
      simp only [List.getElem?_toArray, List.getElem?_cons_zero] at c1
      obtain ⟨w6, hw6⟩ : ∃ x, x = (w2.setCell ⟨g, 1, none⟩ (.int .i64 r.at_)).setCell ⟨g, 2, none⟩ (.int .i64 m) := ⟨_, rfl⟩
      rw [← hw6] at R5 c1 K5 ⊢
      clear hn hb hr hk2 hw6
      go_wp2
      go_ret
      refine ⟨?_, ⟨A, c, ?_⟩, K5.out⟩ <;> (simp only [Rd.int, Rd.bytes, Rd.take, Rd.step, HF.out, HN.out, if_true])
      · exact ⟨_, rfl, BOwns.nil _ _⟩
      · exact R5.out
  · refine (reading_fault Rn hf _).mono ?_
    rintro e w5 ⟨rfl, hb⟩
    have c1 := (k3.below' hb).cell 0
    simp at c1
    have R5 := Lib.hid (Rn.below hb)
    have K5 := Lib.hid (Kn.trans (Keeps.of_below hb (fun _ => False)) (fun _ h => h.elim))
    have HF := Lib.hid hf
    clear hb Rn k1 k2 k3 Kn hf hszn
    go_wp2
    go_ret
    refine ⟨?_, ⟨A, c, ?_⟩, K5.out⟩ <;> (simp only [Rd.int, Rd.bytes, Rd.take, Rd.step, if_neg HF.out])
    · exact ⟨_, rfl, BOwns.nil _ _⟩
    · exact R5.out
theorem enterText (caps : Array Value) (w : World) : (callFunc 96 caps).run Try.prog w = .ok (.enter 96 caps) w :=
  callFunc_enter 96 Try.f96 _ Try.func96 rfl (by kernel_rfl) caps w
theorem rdText_any {w : World} {g : Nat} {r : Rd} (h : RdIs w g r) (most : Int) :
    Calls Try.prog 67 #[.pointer (some ⟨g, 0, none⟩), .int .i64 most] w (RdPost w g (r.bytes most) (AnsText)) := by
  obtain ⟨A, c, HR⟩ := h
  have hmf : ∀ (fn : Fn) (first cap : Array Value) (w : World), (Instr.makeFunc fn first cap).run Try.prog w = .ok (.func fn first cap) w := fun _ _ _ _ => rfl
  have H := Lib.hid HR
  clear HR
  go_enter Try.func67, Try.ntmps67
  go_wp2_with fail
  obtain ⟨W1, hW1⟩ : ∃ x, x = w.alloc (.cells #[.pointer (some ⟨g, 0, none⟩)] 99) := ⟨_, rfl⟩
  obtain ⟨W2, hW2⟩ : ∃ x, x = W1.alloc (.cells #[.int .i64 most] 3) := ⟨_, rfl⟩
  obtain ⟨W3, hW3⟩ : ∃ x, x = W2.alloc (.cells #[.string ⟨#[]⟩] 9) := ⟨_, rfl⟩
  have s1 : W1.heap.size = w.heap.size + 1 := by rw [hW1]; simp
  have s2 : W2.heap.size = w.heap.size + 1 + 1 := by rw [hW2]; simp; omega
  have Rn : RdAt W3 g A c r.l r.at_ r.f := by rw [hW3, hW2, hW1]; exact ((H.out.alloc _).alloc _).alloc _
  have k1 : Blk W3 (w.heap.size) 99 #[.pointer (some ⟨g, 0, none⟩)] := by rw [hW3, hW2, hW1]; exact ((Blk.new _ _ _).alloc _).alloc _
  have k2 : Blk W3 (w.heap.size + 1) 3 #[.int .i64 most] := by rw [← s1, hW3, hW2]; exact (Blk.new _ _ _).alloc _
  have k3 : Blk W3 (w.heap.size + 1 + 1) 9 #[.string ⟨#[]⟩] := by rw [← s2, hW3]; exact Blk.new _ _ _
  have Kn : Keeps (fun k => k = g) w W3 := by rw [hW3, hW2, hW1]; exact (((Keeps.refl _ _).alloc _).alloc _).alloc _
  have hszn : w.heap.size ≤ W3.heap.size := Kn.size
  have hg := H.out.blk.lt
  rw [← hW1, ← hW2, ← hW3]
  clear hW1 hW2 hW3 s1 s2
  by_cases hf : r.f = 0
  · rw [hf] at Rn
    have HF := Lib.hid hf
    clear hf
    refine (reading_any Rn 96 _ (fun k => k = g ∨ k = w.heap.size + 1 + 1) (fun k hk => by have := k3.lt; rcases hk with rfl | rfl <;> omega) (.inl rfl) (enterText _)
      (fun w2 => ∃ n k, blockF most (r.l.drop r.at_) = .ok (n, k) ∧ Blk w2 (w.heap.size + 1 + 1) 9 #[.string ⟨n.toArray⟩] ∧ RdAt w2 g A c r.l (r.at_ + k) 0)
      (fun m w2 => blockF most (r.l.drop r.at_) = .error m ∧ Blk w2 (w.heap.size + 1 + 1) 9 #[.string ⟨#[]⟩])
      (fun w1 hb => text1_any (Rn.below hb) (k1.below' hb) (k2.below' hb) (k3.below' hb) (by omega))).mono ?_
    rintro e w5 ⟨rfl, hk, h⟩
    have K5 := Lib.hid (Kn.trans hk (fun i hi => hi.elim (fun h => .inl h) (fun h => .inr (by omega))))
    clear hk Rn k1 k2 k3 Kn hszn
    rcases h with ⟨n, k, hn, hb, hr⟩ | ⟨m, w2, ⟨hn, hb⟩, hk2, rfl, at', hr⟩
    · have R5 := Lib.hid hr
      have HN := Lib.hid hn
      have c1 := hb.cell 0
      simp at c1
      clear hn hb hr
      go_wp2
      go_ret
      refine ⟨?_, ⟨A, c, ?_⟩, K5.out⟩ <;> (simp only [Rd.int, Rd.bytes, Rd.take, Rd.step, HF.out, HN.out, if_true])
      · rfl
      · exact R5.out
    · have R5 := Lib.hid (hr.faulted r.at_ H.out.le m)
      have HN := Lib.hid hn
      have c1 := ((hb.far (p := ⟨g, 1, none⟩) (by simp; omega) (.int .i64 r.at_)).far (p := ⟨g, 2, none⟩) (by simp; omega) (.int .i64 m)).cell 0
      simp only [List.getElem?_toArray, List.getElem?_cons_zero] at c1
      obtain ⟨w6, hw6⟩ : ∃ x, x = (w2.setCell ⟨g, 1, none⟩ (.int .i64 r.at_)).setCell ⟨g, 2, none⟩ (.int .i64 m) := ⟨_, rfl⟩
      rw [← hw6] at R5 c1 K5 ⊢
      clear hn hb hr hk2 hw6
      go_wp2
      go_ret
      refine ⟨?_, ⟨A, c, ?_⟩, K5.out⟩ <;> (simp only [Rd.int, Rd.bytes, Rd.take, Rd.step, HF.out, HN.out, if_true])
      · rfl
      · exact R5.out
  · refine (reading_fault Rn hf _).mono ?_
    rintro e w5 ⟨rfl, hb⟩
    have c1 := (k3.below' hb).cell 0
    simp at c1
    have R5 := Lib.hid (Rn.below hb)
    have K5 := Lib.hid (Kn.trans (Keeps.of_below hb (fun _ => False)) (fun _ h => h.elim))
    have HF := Lib.hid hf
    clear hb Rn k1 k2 k3 Kn hf hszn
    go_wp2
    go_ret
    refine ⟨?_, ⟨A, c, ?_⟩, K5.out⟩ <;> (simp only [Rd.int, Rd.bytes, Rd.take, Rd.step, if_neg HF.out])
    · rfl
    · exact R5.out
end Go.Proofs.Ytnnladfndmdapaa
