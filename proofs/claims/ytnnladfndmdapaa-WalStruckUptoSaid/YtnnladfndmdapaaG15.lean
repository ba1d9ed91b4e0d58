/- Contracts and plain laws that this claim leans on, laid together: Ent7. -/
import Derived.Test.YtnnladfndmdapaaG06
set_option linter.all false
set_option linter.unusedVariables false
set_option linter.unusedSimpArgs false
set_option linter.unnecessarySimpa false
/- Same, SameVersion, clone: by contract (printed by a program of this claim's own). -/
namespace Go.Proofs.Ytnnladfndmdapaa
open Go.RowKit

/-- The call answers true and leaves what was there. -/
def True_ (w : World) (e : Ending) (w' : World) : Prop := e = .returned (.bool true) ∧ Below w.heap.size w w'
set_option maxRecDepth 100000 in
set_option maxHeartbeats 1000000 in
theorem same_any {w : World} {A A' : Option Addr} {c c' : Nat} (x : En) (h1 : BReads w w.heap.size A x.value) (h2 : BReads w w.heap.size A' x.value) :
    Calls Try.prog 24 #[.agg (x.cells A c), .agg (x.cells A' c')] w (True_ w) := by
  obtain ⟨k, s, n, key, p, d⟩ := x
  unfold En.cells
  simp only at h1 h2 ⊢
  have B0 := Lib.hid (((Below.refl w.heap.size w).alloc (Nat.le_refl _) (.cells #[.int .i64 k, .int .i64 s, .int .i64 n, .string key, .slice A p.length c, .bool d] 25)).alloc (by simp) (.cells #[.int .i64 k, .int .i64 s, .int .i64 n, .string key, .slice A' p.length c', .bool d] 25))
  have k1 := conv_text (h1.below B0.out) c
  have k2 := conv_text (h2.below B0.out) c'
  obtain ⟨t, ht⟩ : ∃ t : ByteArray, t = ⟨p.toArray⟩ := ⟨_, rfl⟩
  obtain ⟨m, hm⟩ : ∃ m, m = p.length := ⟨_, rfl⟩
  rw [← ht, ← hm] at k1 k2
  rw [← hm] at B0
  rw [← hm]
  clear ht hm h1 h2
  go_enter Try.func24, Try.ntmps24
  go_wp2
  go_ret
  exact ⟨rfl, B0.out⟩
set_option maxRecDepth 100000 in
set_option maxHeartbeats 1000000 in
theorem sameVersion_any {w : World} {A A' : Option Addr} {c c' : Nat} (x : Vn) (h1 : BReads w w.heap.size A x.value) (h2 : BReads w w.heap.size A' x.value) :
    Calls Try.prog 31 #[.agg (x.cells A c), .agg (x.cells A' c')] w (True_ w) := by
  obtain ⟨key, s, p, d⟩ := x
  unfold Vn.cells
  simp only at h1 h2 ⊢
  have B0 := Lib.hid (((Below.refl w.heap.size w).alloc (Nat.le_refl _) (.cells #[.string key, .int .i64 s, .slice A p.length c, .bool d] 43)).alloc (by simp) (.cells #[.string key, .int .i64 s, .slice A' p.length c', .bool d] 43))
  have k1 := conv_text (h1.below B0.out) c
  have k2 := conv_text (h2.below B0.out) c'
  obtain ⟨t, ht⟩ : ∃ t : ByteArray, t = ⟨p.toArray⟩ := ⟨_, rfl⟩
  obtain ⟨m, hm⟩ : ∃ m, m = p.length := ⟨_, rfl⟩
  rw [← ht, ← hm] at k1 k2
  rw [← hm] at B0
  rw [← hm]
  clear ht hm h1 h2
  go_enter Try.func31, Try.ntmps31
  go_wp2
  go_ret
  exact ⟨rfl, B0.out⟩
set_option maxRecDepth 100000 in
set_option maxHeartbeats 1000000 in
theorem clone_any {w : World} {A : Option Addr} {c : Nat} (x : En) (hr : BReads w w.heap.size A x.value) (hl : x.value.length ≤ 140737488355328) :
    Calls Try.prog 18 #[.agg (x.cells A c)] w (GivesE w x) := by
  obtain ⟨k, s, n, key, p, d⟩ := x
  unfold En.cells
  simp only at hr hl ⊢
  have H0 := Lib.hid hr
  clear hr
  have KT := Lib.hid ((Blk.new w 25 #[.int .i64 k, .int .i64 s, .int .i64 n, .string key, .slice A p.length c, .bool d]).alloc (.cells #[.int .i64 0, .int .i64 0, .int .i64 0, .string ⟨#[]⟩, .slice none 0 0, .bool false] 25))
  have KR := Lib.hid (Blk.new (w.alloc (.cells #[.int .i64 k, .int .i64 s, .int .i64 n, .string key, .slice A p.length c, .bool d] 25)) 25 #[.int .i64 0, .int .i64 0, .int .i64 0, .string ⟨#[]⟩, .slice none 0 0, .bool false])
  have B0 := Lib.hid (((Below.refl w.heap.size w).alloc (Nat.le_refl _) (.cells #[.int .i64 k, .int .i64 s, .int .i64 n, .string key, .slice A p.length c, .bool d] 25)).alloc (by simp) (.cells #[.int .i64 0, .int .i64 0, .int .i64 0, .string ⟨#[]⟩, .slice none 0 0, .bool false] 25))
  go_enter Try.func18, Try.ntmps18
  go_wp2_with (at_builtin; refine Stop.of ?_)
  obtain ⟨W, hW⟩ : ∃ x, x = (w.alloc (.cells #[.int .i64 k, .int .i64 s, .int .i64 n, .string key, .slice A p.length c, .bool d] 25)).alloc (.cells #[.int .i64 0, .int .i64 0, .int .i64 0, .string ⟨#[]⟩, .slice none 0 0, .bool false] 25) := ⟨_, rfl⟩
  obtain ⟨T, hT⟩ : ∃ x, x = w.heap.size := ⟨_, rfl⟩
  obtain ⟨R, hR⟩ : ∃ x, x = w.heap.size + 1 := ⟨_, rfl⟩
  have HT := Lib.hid (show w.heap.size ≤ R ∧ w.heap.size ≤ T from by omega)
  have hTR : ¬ T = R := by omega
  have hRT : ¬ R = T := by omega
  have KR' := Lib.hid (show Blk W R 25 #[.int .i64 0, .int .i64 0, .int .i64 0, .string ⟨#[]⟩, .slice none 0 0, .bool false] from by have := KR.out; rw [hW, hR]; simpa using this)
  rw [← hW, ← hT] at KT
  rw [← hW] at B0
  rw [← hW, ← hR, ← hT]
  clear hW hT hR KR
  have HP := Lib.hid ((H0.out.below B0.out).more B0.out.size)
  refine ⟨append_bytes (BOwns.nil W W.heap.size) HP.out.src (by simpa using hl) (Nat.le_refl _) rfl rfl rfl rfl ?_⟩
  intro v1 w1 ho hg _
  have hb := below_of_nil hg
  rw [List.nil_append] at ho
  obtain ⟨A2, c2, rfl, _, _⟩ := BOwns.slice ho
  have KT1 := Lib.hid (KT.out.below' hb)
  have KR1 := Lib.hid (KR'.out.below' hb)
  have f4 := KT1.out.frozen 4
  have t4 := KT1.out.cell 4
  have KT2 := Lib.hid (show Blk (w1.setCell ⟨T, 4, none⟩ (.slice A2 p.length c2)) T 25 #[.int .i64 k, .int .i64 s, .int .i64 n, .string key, .slice A2 p.length c2, .bool d] from by simpa using KT1.out.set_ 4 (.slice A2 p.length c2))
  have KR2 := Lib.hid (KR1.out.far (p := ⟨T, 4, none⟩) hRT (.slice A2 p.length c2))
  have HK := (Keeps.refl (fun k => k = T) w1).setCell (p := ⟨T, 4, none⟩) (.inl rfl) (.slice A2 p.length c2)
  have O2 := Lib.hid (ho.farBlk KT1.out (by decide) HK)
  have B2 := Lib.hid ((B0.out.trans (hb.mono B0.out.size)).trans (HK.below (B0.out.trans (hb.mono B0.out.size)).size (fun i hi => by rw [hi]; exact HT.out.2)))
  have x0 := KT2.out.cell 0
  have x1 := KT2.out.cell 1
  have x2 := KT2.out.cell 2
  have x3 := KT2.out.cell 3
  have x4 := KT2.out.cell 4
  have x5 := KT2.out.cell 5
  have r0 := KR2.out.cell 0
  have g0 := KR2.out.frozen 0
  have r1 := KR2.out.cell 1
  have g1 := KR2.out.frozen 1
  have r2 := KR2.out.cell 2
  have g2 := KR2.out.frozen 2
  have r3 := KR2.out.cell 3
  have g3 := KR2.out.frozen 3
  have r4 := KR2.out.cell 4
  have g4 := KR2.out.frozen 4
  have r5 := KR2.out.cell 5
  have g5 := KR2.out.frozen 5
  simp at t4 x0 x1 x2 x3 x4 x5 r0 r1 r2 r3 r4 r5
  have KR3 := Lib.hid (KR2.out.put6 (.int .i64 k) (.int .i64 s) (.int .i64 n) (.string key) (.slice A2 p.length c2) (.bool d))
  have O3 := Lib.hid (O2.out.farBlk KR2.out (by decide) (keeps_set6 _ R (.int .i64 k) (.int .i64 s) (.int .i64 n) (.string key) (.slice A2 p.length c2) (.bool d)))
  have B3 := Lib.hid (B2.out.trans ((keeps_set6 _ R (.int .i64 k) (.int .i64 s) (.int .i64 n) (.string key) (.slice A2 p.length c2) (.bool d)).below B2.out.size (fun i hi => by rw [hi]; exact HT.out.1)))
  have SZ := Lib.hid B0.out.size
  clear HK ho hg hb
  go_wp2
  unfold set6 at KR3 O3 B3
  have q0 := KR3.out.cell 0
  have q1 := KR3.out.cell 1
  have q2 := KR3.out.cell 2
  have q3 := KR3.out.cell 3
  have q4 := KR3.out.cell 4
  have q5 := KR3.out.cell 5
  simp only [List.getElem?_toArray, List.getElem?_cons_zero, List.getElem?_cons_succ] at q0 q1 q2 q3 q4 q5
  exact bodyPost_ret (v := .agg #[.int .i64 k, .int .i64 s, .int .i64 n, .string key, .slice A2 p.length c2, .bool d]) (by simp [results, Try.results18, go_sem, q0, q1, q2, q3, q4, q5]) rfl ⟨A2, c2, rfl, owns_less O3.out SZ.out, B3.out⟩
end Go.Proofs.Ytnnladfndmdapaa
