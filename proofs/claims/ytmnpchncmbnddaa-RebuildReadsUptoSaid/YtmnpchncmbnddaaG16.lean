/- Contracts and plain laws that this claim leans on, laid together: Rvr. -/
import Derived.Test.YtmnpchncmbnddaaG03
set_option linter.all false
set_option linter.unusedVariables false
set_option linter.unusedSimpArgs false
set_option linter.unnecessarySimpa false
/- What an entry says of a key, as the reference tells it, by contract. -/
namespace Go.Proofs.Ytmnpchncmbnddaa
open Go.RowKit

set_option maxRecDepth 100000 in
set_option maxHeartbeats 1000000 in
theorem rver_any {w : World} {A : Option Addr} {c : Nat} (x : En) (hr : BReads w w.heap.size A x.value) (hl : x.value.length ≤ 140737488355328) :
    Calls Try.prog 71 #[.agg (x.cells A c)] w (GivesV w x.version) := by
  obtain ⟨k, s, n, key, p, d⟩ := x
  unfold En.cells
  simp only at hr hl ⊢
  have H0 := Lib.hid hr
  clear hr
  by_cases h1 : k = 1
  · subst h1
    rw [show En.version ⟨1, s, n, key, p, d⟩ = (⟨key, 0, p, false⟩, true) from rfl]
    have KT := Lib.hid ((Blk.new w 26 #[.int .i64 1, .int .i64 s, .int .i64 n, .string key, .slice A p.length c, .bool d]).alloc (.cells #[.string ⟨#[]⟩, .int .i64 0, .slice none 0 0, .bool false] 88))
    have KR := Lib.hid (Blk.new (w.alloc (.cells #[.int .i64 1, .int .i64 s, .int .i64 n, .string key, .slice A p.length c, .bool d] 26)) 88 #[.string ⟨#[]⟩, .int .i64 0, .slice none 0 0, .bool false])
    have B0 := Lib.hid (((Below.refl w.heap.size w).alloc (Nat.le_refl _) (.cells #[.int .i64 1, .int .i64 s, .int .i64 n, .string key, .slice A p.length c, .bool d] 26)).alloc (by simp) (.cells #[.string ⟨#[]⟩, .int .i64 0, .slice none 0 0, .bool false] 88))
    go_enter Try.func71, Try.ntmps71
    go_wp2
    obtain ⟨W, hW⟩ : ∃ x, x = (w.alloc (.cells #[.int .i64 1, .int .i64 s, .int .i64 n, .string key, .slice A p.length c, .bool d] 26)).alloc (.cells #[.string ⟨#[]⟩, .int .i64 0, .slice none 0 0, .bool false] 88) := ⟨_, rfl⟩
    obtain ⟨T, hT⟩ : ∃ x, x = w.heap.size := ⟨_, rfl⟩
    obtain ⟨R, hR⟩ : ∃ x, x = w.heap.size + 1 := ⟨_, rfl⟩
    have HT := Lib.hid (show w.heap.size ≤ R from by omega)
    have hTR : ¬ T = R := by omega
    have hRT : ¬ R = T := by omega
    have KR' := Lib.hid (show Blk W R 88 #[.string ⟨#[]⟩, .int .i64 0, .slice none 0 0, .bool false] from by have := KR.out; rw [hW, hR]; simpa using this)
    rw [← hW, ← hT] at KT
    rw [← hW] at B0
    rw [← hW, ← hR, ← hT]
    clear hW hT hR KR
    have HP := Lib.hid ((H0.out.below B0.out).more B0.out.size)
    have td0 : W.drew.cell? ⟨T, 0, none⟩ = some (.int .i64 1) := by have h := KT.out.cell 0; simp at h; exact h
    have td1 : W.drew.cell? ⟨T, 1, none⟩ = some (.int .i64 s) := by have h := KT.out.cell 1; simp at h; exact h
    have td2 : W.drew.cell? ⟨T, 2, none⟩ = some (.int .i64 n) := by have h := KT.out.cell 2; simp at h; exact h
    have td3 : W.drew.cell? ⟨T, 3, none⟩ = some (.string key) := by have h := KT.out.cell 3; simp at h; exact h
    have td4 : W.drew.cell? ⟨T, 4, none⟩ = some (.slice A p.length c) := by have h := KT.out.cell 4; simp at h; exact h
    have td5 : W.drew.cell? ⟨T, 5, none⟩ = some (.bool d) := by have h := KT.out.cell 5; simp at h; exact h
    go_region_held3 (fun w' => w'.cell? ⟨T, 0, none⟩ = some (.int .i64 1) ∧ w'.cell? ⟨T, 1, none⟩ = some (.int .i64 s) ∧ w'.cell? ⟨T, 2, none⟩ = some (.int .i64 n) ∧ w'.cell? ⟨T, 3, none⟩ = some (.string key) ∧ w'.cell? ⟨T, 4, none⟩ = some (.slice A p.length c) ∧ w'.cell? ⟨T, 5, none⟩ = some (.bool d)) (first | (with_reducible exact ⟨td0, td1, td2, td3, td4, td5⟩) | (with_reducible exact ⟨x0, x1, x2, x3, x4, x5⟩) | go_keep) ((go_at_call 108; refine (rown_any (w := W.drew) HP.out hl).mono ?_; rintro e w2 h; obtain ⟨v2, rfl, ho, hb⟩ := h.out; obtain ⟨A2, c2, rfl, _, _⟩ := BOwns.slice ho; have HO := Lib.hid ho; have HB := Lib.hid (show Below W.heap.size W w2 from ⟨hb.os, hb.tape, hb.output, hb.size, hb.block⟩); have KT2 := Lib.hid (KT.out.below' HB.out); have KR2 := Lib.hid (KR'.out.below' HB.out); have x0 := KT2.out.cell 0; have x1 := KT2.out.cell 1; have x2 := KT2.out.cell 2; have x3 := KT2.out.cell 3; have x4 := KT2.out.cell 4; have x5 := KT2.out.cell 5; have r0 := KR2.out.cell 0; have f0 := KR2.out.frozen 0; have r1 := KR2.out.cell 1; have f1 := KR2.out.frozen 1; have r2 := KR2.out.cell 2; have f2 := KR2.out.frozen 2; have r3 := KR2.out.cell 3; have f3 := KR2.out.frozen 3; simp at x0 x1 x2 x3 x4 x5 r0 r1 r2 r3; clear h ho hb))
    have KR3 := Lib.hid (KR2.out.put4 (.string key) (.int .i64 0) (.slice A2 p.length c2) (.bool false))
    have OW := Lib.hid ((HO.out.farBlk KR2.out (by decide) (keeps_set4 w2 R (.string key) (.int .i64 0) (.slice A2 p.length c2) (.bool false))))
    have SZ := Lib.hid (show w.heap.size ≤ W.drew.heap.size from B0.out.size)
    have BW := Lib.hid (show Below w.heap.size w (set4 w2 R (.string key) (.int .i64 0) (.slice A2 p.length c2) (.bool false)) from (B0.out.trans (HB.out.mono B0.out.size)).trans ((keeps_set4 w2 R (.string key) (.int .i64 0) (.slice A2 p.length c2) (.bool false)).below (B0.out.trans (HB.out.mono B0.out.size)).size (fun i hi => by rw [hi]; exact HT.out)))
    clear x0 x1 x2 x3 x4 x5 r0 f0 r1 f1 r2 f2 r3 f3 td0 td1 td2 td3 td4 td5
    obtain ⟨w3, hw3⟩ : ∃ x, x = ((((w2.setCell ⟨R, 0, none⟩ (.string key)).setCell ⟨R, 1, none⟩ (.int .i64 0)).setCell ⟨R, 2, none⟩ (.slice A2 p.length c2)).setCell ⟨R, 3, none⟩ (.bool false)) := ⟨_, rfl⟩
    rw [show set4 w2 R (.string key) (.int .i64 0) (.slice A2 p.length c2) (.bool false) = w3 from hw3.symm] at KR3 OW BW
    rw [← hw3]
    clear hw3
    have q0 := KR3.out.cell 0
    have q1 := KR3.out.cell 1
    have q2 := KR3.out.cell 2
    have q3 := KR3.out.cell 3
    simp at q0 q1 q2 q3
    go_wp2
    exact bodyPost_ret (v := .tuple #[.agg #[.string key, .int .i64 0, .slice A2 p.length c2, .bool false], .bool true]) (by simp [results, Try.results71, go_sem, q0, q1, q2, q3]) rfl ⟨A2, c2, rfl, owns_less OW.out SZ.out, BW.out⟩
  by_cases h2 : k = 2
  · subst h2
    rw [show En.version ⟨2, s, n, key, p, d⟩ = (⟨key, 0, [], true⟩, true) from rfl]
    go_enter Try.func71, Try.ntmps71
    go_wp2
    exact bodyPost_ret (v := .tuple #[.agg #[.string key, .int .i64 0, .slice none 0 0, .bool true], .bool true]) (by simp [results, Try.results71, go_sem]) rfl ⟨none, 0, rfl, BOwns.nil _ _, ((Below.refl w.heap.size w).alloc (Nat.le_refl _) _).alloc (by simp) _⟩
  by_cases h5 : k = 5
  · subst h5
    rw [show En.version ⟨5, s, n, key, p, d⟩ = (⟨key, s, p, d⟩, true) from rfl]
    have KT := Lib.hid ((Blk.new w 26 #[.int .i64 5, .int .i64 s, .int .i64 n, .string key, .slice A p.length c, .bool d]).alloc (.cells #[.string ⟨#[]⟩, .int .i64 0, .slice none 0 0, .bool false] 88))
    have KR := Lib.hid (Blk.new (w.alloc (.cells #[.int .i64 5, .int .i64 s, .int .i64 n, .string key, .slice A p.length c, .bool d] 26)) 88 #[.string ⟨#[]⟩, .int .i64 0, .slice none 0 0, .bool false])
    have B0 := Lib.hid (((Below.refl w.heap.size w).alloc (Nat.le_refl _) (.cells #[.int .i64 5, .int .i64 s, .int .i64 n, .string key, .slice A p.length c, .bool d] 26)).alloc (by simp) (.cells #[.string ⟨#[]⟩, .int .i64 0, .slice none 0 0, .bool false] 88))
    go_enter Try.func71, Try.ntmps71
    go_wp2
    obtain ⟨W, hW⟩ : ∃ x, x = (w.alloc (.cells #[.int .i64 5, .int .i64 s, .int .i64 n, .string key, .slice A p.length c, .bool d] 26)).alloc (.cells #[.string ⟨#[]⟩, .int .i64 0, .slice none 0 0, .bool false] 88) := ⟨_, rfl⟩
    obtain ⟨T, hT⟩ : ∃ x, x = w.heap.size := ⟨_, rfl⟩
    obtain ⟨R, hR⟩ : ∃ x, x = w.heap.size + 1 := ⟨_, rfl⟩
    have HT := Lib.hid (show w.heap.size ≤ R from by omega)
    have hTR : ¬ T = R := by omega
    have hRT : ¬ R = T := by omega
    have KR' := Lib.hid (show Blk W R 88 #[.string ⟨#[]⟩, .int .i64 0, .slice none 0 0, .bool false] from by have := KR.out; rw [hW, hR]; simpa using this)
    rw [← hW, ← hT] at KT
    rw [← hW] at B0
    rw [← hW, ← hR, ← hT]
    clear hW hT hR KR
    have HP := Lib.hid ((H0.out.below B0.out).more B0.out.size)
    have td0 : W.drew.cell? ⟨T, 0, none⟩ = some (.int .i64 5) := by have h := KT.out.cell 0; simp at h; exact h
    have td1 : W.drew.cell? ⟨T, 1, none⟩ = some (.int .i64 s) := by have h := KT.out.cell 1; simp at h; exact h
    have td2 : W.drew.cell? ⟨T, 2, none⟩ = some (.int .i64 n) := by have h := KT.out.cell 2; simp at h; exact h
    have td3 : W.drew.cell? ⟨T, 3, none⟩ = some (.string key) := by have h := KT.out.cell 3; simp at h; exact h
    have td4 : W.drew.cell? ⟨T, 4, none⟩ = some (.slice A p.length c) := by have h := KT.out.cell 4; simp at h; exact h
    have td5 : W.drew.cell? ⟨T, 5, none⟩ = some (.bool d) := by have h := KT.out.cell 5; simp at h; exact h
    go_region_held3 (fun w' => w'.cell? ⟨T, 0, none⟩ = some (.int .i64 5) ∧ w'.cell? ⟨T, 1, none⟩ = some (.int .i64 s) ∧ w'.cell? ⟨T, 2, none⟩ = some (.int .i64 n) ∧ w'.cell? ⟨T, 3, none⟩ = some (.string key) ∧ w'.cell? ⟨T, 4, none⟩ = some (.slice A p.length c) ∧ w'.cell? ⟨T, 5, none⟩ = some (.bool d)) (first | (with_reducible exact ⟨td0, td1, td2, td3, td4, td5⟩) | (with_reducible exact ⟨x0, x1, x2, x3, x4, x5⟩) | go_keep) ((go_at_call 108; refine (rown_any (w := W.drew) HP.out hl).mono ?_; rintro e w2 h; obtain ⟨v2, rfl, ho, hb⟩ := h.out; obtain ⟨A2, c2, rfl, _, _⟩ := BOwns.slice ho; have HO := Lib.hid ho; have HB := Lib.hid (show Below W.heap.size W w2 from ⟨hb.os, hb.tape, hb.output, hb.size, hb.block⟩); have KT2 := Lib.hid (KT.out.below' HB.out); have KR2 := Lib.hid (KR'.out.below' HB.out); have x0 := KT2.out.cell 0; have x1 := KT2.out.cell 1; have x2 := KT2.out.cell 2; have x3 := KT2.out.cell 3; have x4 := KT2.out.cell 4; have x5 := KT2.out.cell 5; have r0 := KR2.out.cell 0; have f0 := KR2.out.frozen 0; have r1 := KR2.out.cell 1; have f1 := KR2.out.frozen 1; have r2 := KR2.out.cell 2; have f2 := KR2.out.frozen 2; have r3 := KR2.out.cell 3; have f3 := KR2.out.frozen 3; simp at x0 x1 x2 x3 x4 x5 r0 r1 r2 r3; clear h ho hb))
    have KR3 := Lib.hid (KR2.out.put4 (.string key) (.int .i64 s) (.slice A2 p.length c2) (.bool d))
    have OW := Lib.hid ((HO.out.farBlk KR2.out (by decide) (keeps_set4 w2 R (.string key) (.int .i64 s) (.slice A2 p.length c2) (.bool d))))
    have SZ := Lib.hid (show w.heap.size ≤ W.drew.heap.size from B0.out.size)
    have BW := Lib.hid (show Below w.heap.size w (set4 w2 R (.string key) (.int .i64 s) (.slice A2 p.length c2) (.bool d)) from (B0.out.trans (HB.out.mono B0.out.size)).trans ((keeps_set4 w2 R (.string key) (.int .i64 s) (.slice A2 p.length c2) (.bool d)).below (B0.out.trans (HB.out.mono B0.out.size)).size (fun i hi => by rw [hi]; exact HT.out)))
    clear x0 x1 x2 x3 x4 x5 r0 f0 r1 f1 r2 f2 r3 f3 td0 td1 td2 td3 td4 td5
    obtain ⟨w3, hw3⟩ : ∃ x, x = ((((w2.setCell ⟨R, 0, none⟩ (.string key)).setCell ⟨R, 1, none⟩ (.int .i64 s)).setCell ⟨R, 2, none⟩ (.slice A2 p.length c2)).setCell ⟨R, 3, none⟩ (.bool d)) := ⟨_, rfl⟩
    rw [show set4 w2 R (.string key) (.int .i64 s) (.slice A2 p.length c2) (.bool d) = w3 from hw3.symm] at KR3 OW BW
    rw [← hw3]
    clear hw3
    have q0 := KR3.out.cell 0
    have q1 := KR3.out.cell 1
    have q2 := KR3.out.cell 2
    have q3 := KR3.out.cell 3
    simp at q0 q1 q2 q3
    go_wp2
    exact bodyPost_ret (v := .tuple #[.agg #[.string key, .int .i64 s, .slice A2 p.length c2, .bool d], .bool true]) (by simp [results, Try.results71, go_sem, q0, q1, q2, q3]) rfl ⟨A2, c2, rfl, owns_less OW.out SZ.out, BW.out⟩
  rw [show En.version ⟨k, s, n, key, p, d⟩ = (⟨⟨#[]⟩, 0, [], false⟩, false) from by unfold En.version; rw [if_neg h1, if_neg h2, if_neg h5]]
  have k1 : (k == 1) = false := by rw [beq_eq_false_iff_ne]; exact h1
  have k2 : (k == 2) = false := by rw [beq_eq_false_iff_ne]; exact h2
  have k5 : (k == 5) = false := by rw [beq_eq_false_iff_ne]; exact h5
  clear h1 h2 h5
  go_enter Try.func71, Try.ntmps71
  go_wp2
  exact bodyPost_ret (v := .tuple #[.agg #[.string ⟨#[]⟩, .int .i64 0, .slice none 0 0, .bool false], .bool false]) (by simp [results, Try.results71, go_sem]) rfl ⟨none, 0, rfl, BOwns.nil _ _, ((Below.refl w.heap.size w).alloc (Nat.le_refl _) _).alloc (by simp) _⟩
end Go.Proofs.Ytmnpchncmbnddaa
