/- Contracts and plain laws that this claim leans on, laid together: Ent6. -/
import Derived.Test.YtoecgkdipgaaeaaG04
import Derived.Deep.RegionHeld3
set_option linter.all false
set_option linter.unusedVariables false
set_option linter.unusedSimpArgs false
set_option linter.unnecessarySimpa false
/- Versions: how they lie in memory; OfWrite, OfVersion, Version of package entry and of the reference: by contract. -/
namespace Go.Proofs.Ytoecgkdipgaaeaa
open Go.RowKit

/-- A version. -/
structure Vn where
  key : ByteArray
  stamp : Int
  value : List UInt8
  dead : Bool
def Vn.cells (e : Vn) (A : Option Addr) (c : Nat) : Array Value := #[.string e.key, .int .i64 e.stamp, .slice A e.value.length c, .bool e.dead]
def Vn.ofWrite (v : Vn) : En := if v.dead = true then ⟨2, 0, 0, v.key, [], false⟩ else ⟨1, 0, 0, v.key, v.value, false⟩
def Vn.ofVersion (v : Vn) : En := ⟨5, v.stamp, 0, v.key, v.value, v.dead⟩
def En.version (e : En) : Vn × Bool :=
  if e.kind = 1 then (⟨e.key, 0, e.value, false⟩, true) else if e.kind = 2 then (⟨e.key, 0, [], true⟩, true) else if e.kind = 5 then (⟨e.key, e.stamp, e.value, e.dead⟩, true) else (⟨⟨#[]⟩, 0, [], false⟩, false)
/-- The call answers an entry whose value is new memory. -/
def GivesE (w : World) (x : En) (e : Ending) (w' : World) : Prop := ∃ A c, e = .returned (.agg (x.cells A c)) ∧ BOwns w' w.heap.size (.slice A x.value.length c) x.value ∧ Below w.heap.size w w'
/-- The call answers a version whose value is new memory, and a bool. -/
def GivesV (w : World) (x : Vn × Bool) (e : Ending) (w' : World) : Prop := ∃ A c, e = .returned (.tuple #[.agg (x.1.cells A c), .bool x.2]) ∧ BOwns w' w.heap.size (.slice A x.1.value.length c) x.1.value ∧ Below w.heap.size w w'
/-- Four cells of a block, written. -/
def set4 (w : World) (g : Nat) (u0 u1 u2 u3 : Value) : World := ((((w.setCell ⟨g, 0, none⟩ u0).setCell ⟨g, 1, none⟩ u1).setCell ⟨g, 2, none⟩ u2).setCell ⟨g, 3, none⟩ u3)
theorem Blk.put4 {w : World} {g : Nat} {t : TypeId} {a0 a1 a2 a3 : Value} (h : Blk w g t #[a0, a1, a2, a3]) (u0 u1 u2 u3 : Value) : Blk (set4 w g u0 u1 u2 u3) g t #[u0, u1, u2, u3] := by
  have := ((((h.set_ 0 u0).set_ 1 u1).set_ 2 u2).set_ 3 u3)
  unfold set4
  simpa using this
theorem keeps_set4 (w : World) (g : Nat) (u0 u1 u2 u3 : Value) : Keeps (fun k => k = g) w (set4 w g u0 u1 u2 u3) :=
  ((((Keeps.refl (fun k => k = g) w).setCell (p := ⟨g, 0, none⟩) (.inl rfl) u0).setCell (p := ⟨g, 1, none⟩) (.inl rfl) u1).setCell (p := ⟨g, 2, none⟩) (.inl rfl) u2).setCell (p := ⟨g, 3, none⟩) (.inl rfl) u3
/-- Six cells of a block, written. -/
def set6 (w : World) (g : Nat) (u0 u1 u2 u3 u4 u5 : Value) : World := ((((((w.setCell ⟨g, 0, none⟩ u0).setCell ⟨g, 1, none⟩ u1).setCell ⟨g, 2, none⟩ u2).setCell ⟨g, 3, none⟩ u3).setCell ⟨g, 4, none⟩ u4).setCell ⟨g, 5, none⟩ u5)
theorem Blk.put6 {w : World} {g : Nat} {t : TypeId} {a0 a1 a2 a3 a4 a5 : Value} (h : Blk w g t #[a0, a1, a2, a3, a4, a5]) (u0 u1 u2 u3 u4 u5 : Value) : Blk (set6 w g u0 u1 u2 u3 u4 u5) g t #[u0, u1, u2, u3, u4, u5] := by
  have := ((((((h.set_ 0 u0).set_ 1 u1).set_ 2 u2).set_ 3 u3).set_ 4 u4).set_ 5 u5)
  unfold set6
  simpa using this
theorem keeps_set6 (w : World) (g : Nat) (u0 u1 u2 u3 u4 u5 : Value) : Keeps (fun k => k = g) w (set6 w g u0 u1 u2 u3 u4 u5) :=
  ((((((Keeps.refl (fun k => k = g) w).setCell (p := ⟨g, 0, none⟩) (.inl rfl) u0).setCell (p := ⟨g, 1, none⟩) (.inl rfl) u1).setCell (p := ⟨g, 2, none⟩) (.inl rfl) u2).setCell (p := ⟨g, 3, none⟩) (.inl rfl) u3).setCell (p := ⟨g, 4, none⟩) (.inl rfl) u4).setCell (p := ⟨g, 5, none⟩) (.inl rfl) u5
/-- A row while a block of another type is written. -/
theorem BOwns.farBlk {w w' : World} {base g : Nat} {v : Value} {l : List UInt8} {t : TypeId} {cs : Array Value} (h : BOwns w base v l) (hb : Blk w g t cs) (ht : 5 ≠ t) (hk : Keeps (fun k => k = g) w w') : BOwns w' base v l :=
  h.keepsB hk (fun k e e' => by
    subst e'
    rcases h.2 with ⟨h2, _⟩ | ⟨g', cap, cur, hv, _, hh, _⟩
    · rw [h2] at e; cases e
    · rw [hv] at e
      have e' : g' = k := Option.some.inj e
      subst e'
      unfold Blk at hb
      rw [hb] at hh
      injection hh with hh
      injection hh with _ hh
      exact ht hh.symm)
set_option maxRecDepth 100000 in
set_option maxHeartbeats 1000000 in
theorem ofVersion_any {w : World} {A : Option Addr} {c : Nat} (v : Vn) (hr : BReads w w.heap.size A v.value) (hl : v.value.length ≤ 140737488355328) :
    Calls Try.prog 55 #[.agg (v.cells A c)] w (GivesE w v.ofVersion) := by
  obtain ⟨key, s, p, d⟩ := v
  unfold Vn.cells
  simp only at hr hl ⊢
  have H0 := Lib.hid hr
  clear hr
  have KT := Lib.hid ((Blk.new w 33 #[.string key, .int .i64 s, .slice A p.length c, .bool d]).alloc (.cells #[.int .i64 0, .int .i64 0, .int .i64 0, .string ⟨#[]⟩, .slice none 0 0, .bool false] 31))
  have KR := Lib.hid (Blk.new (w.alloc (.cells #[.string key, .int .i64 s, .slice A p.length c, .bool d] 33)) 31 #[.int .i64 0, .int .i64 0, .int .i64 0, .string ⟨#[]⟩, .slice none 0 0, .bool false])
  have B0 := Lib.hid (((Below.refl w.heap.size w).alloc (Nat.le_refl _) (.cells #[.string key, .int .i64 s, .slice A p.length c, .bool d] 33)).alloc (by simp) (.cells #[.int .i64 0, .int .i64 0, .int .i64 0, .string ⟨#[]⟩, .slice none 0 0, .bool false] 31))
  go_enter Try.func55, Try.ntmps55
  go_wp2
  obtain ⟨W, hW⟩ : ∃ x, x = (w.alloc (.cells #[.string key, .int .i64 s, .slice A p.length c, .bool d] 33)).alloc (.cells #[.int .i64 0, .int .i64 0, .int .i64 0, .string ⟨#[]⟩, .slice none 0 0, .bool false] 31) := ⟨_, rfl⟩
  obtain ⟨T, hT⟩ : ∃ x, x = w.heap.size := ⟨_, rfl⟩
  obtain ⟨R, hR⟩ : ∃ x, x = w.heap.size + 1 := ⟨_, rfl⟩
  have HT := Lib.hid (show w.heap.size ≤ R from by omega)
  have hTR : ¬ T = R := by omega
  have hRT : ¬ R = T := by omega
  have KR' := Lib.hid (show Blk W R 31 #[.int .i64 0, .int .i64 0, .int .i64 0, .string ⟨#[]⟩, .slice none 0 0, .bool false] from by have := KR.out; rw [hW, hR]; simpa using this)
  rw [← hW, ← hT] at KT
  rw [← hW] at B0
  rw [← hW, ← hR, ← hT]
  clear hW hT hR KR
  have HP := Lib.hid ((H0.out.below B0.out).more B0.out.size)
  have td0 : W.drew.cell? ⟨T, 0, none⟩ = some (.string key) := by have h := KT.out.cell 0; simp at h; exact h
  have td1 : W.drew.cell? ⟨T, 1, none⟩ = some (.int .i64 s) := by have h := KT.out.cell 1; simp at h; exact h
  have td2 : W.drew.cell? ⟨T, 2, none⟩ = some (.slice A p.length c) := by have h := KT.out.cell 2; simp at h; exact h
  have td3 : W.drew.cell? ⟨T, 3, none⟩ = some (.bool d) := by have h := KT.out.cell 3; simp at h; exact h
  go_region_held3 (fun w' => w'.cell? ⟨T, 0, none⟩ = some (.string key) ∧ w'.cell? ⟨T, 1, none⟩ = some (.int .i64 s) ∧ w'.cell? ⟨T, 2, none⟩ = some (.slice A p.length c) ∧ w'.cell? ⟨T, 3, none⟩ = some (.bool d)) (first | (with_reducible exact ⟨td0, td1, td2, td3⟩) | (with_reducible exact ⟨x0, x1, x2, x3⟩) | go_keep) ((go_at_call 74; refine (eown_any (w := W.drew) HP.out hl).mono ?_; rintro e w2 h; obtain ⟨v2, rfl, ho, hb⟩ := h.out; obtain ⟨A2, c2, rfl, _, _⟩ := BOwns.slice ho; have HO := Lib.hid ho; have HB := Lib.hid (show Below W.heap.size W w2 from ⟨hb.os, hb.tape, hb.output, hb.size, hb.block⟩); have KT2 := Lib.hid (KT.out.below' HB.out); have KR2 := Lib.hid (KR'.out.below' HB.out); have x0 := KT2.out.cell 0; have x1 := KT2.out.cell 1; have x2 := KT2.out.cell 2; have x3 := KT2.out.cell 3; have r0 := KR2.out.cell 0; have f0 := KR2.out.frozen 0; have r1 := KR2.out.cell 1; have f1 := KR2.out.frozen 1; have r2 := KR2.out.cell 2; have f2 := KR2.out.frozen 2; have r3 := KR2.out.cell 3; have f3 := KR2.out.frozen 3; have r4 := KR2.out.cell 4; have f4 := KR2.out.frozen 4; have r5 := KR2.out.cell 5; have f5 := KR2.out.frozen 5; simp at x0 x1 x2 x3 r0 r1 r2 r3 r4 r5; clear h ho hb))
  have KR3 := Lib.hid (KR2.out.put6 (.int .i64 5) (.int .i64 s) (.int .i64 0) (.string key) (.slice A2 p.length c2) (.bool d))
  have OW := Lib.hid ((HO.out.farBlk KR2.out (by decide) (keeps_set6 w2 R (.int .i64 5) (.int .i64 s) (.int .i64 0) (.string key) (.slice A2 p.length c2) (.bool d))))
  have SZ := Lib.hid (show w.heap.size ≤ W.drew.heap.size from B0.out.size)
  have BW := Lib.hid (show Below w.heap.size w (set6 w2 R (.int .i64 5) (.int .i64 s) (.int .i64 0) (.string key) (.slice A2 p.length c2) (.bool d)) from (B0.out.trans (HB.out.mono B0.out.size)).trans ((keeps_set6 w2 R (.int .i64 5) (.int .i64 s) (.int .i64 0) (.string key) (.slice A2 p.length c2) (.bool d)).below (B0.out.trans (HB.out.mono B0.out.size)).size (fun i hi => by rw [hi]; exact HT.out)))
  clear x0 x1 x2 x3 r0 f0 r1 f1 r2 f2 r3 f3 r4 f4 r5 f5 td0 td1 td2 td3
  obtain ⟨w3, hw3⟩ : ∃ x, x = ((((((w2.setCell ⟨R, 0, none⟩ (.int .i64 5)).setCell ⟨R, 1, none⟩ (.int .i64 s)).setCell ⟨R, 2, none⟩ (.int .i64 0)).setCell ⟨R, 3, none⟩ (.string key)).setCell ⟨R, 4, none⟩ (.slice A2 p.length c2)).setCell ⟨R, 5, none⟩ (.bool d)) := ⟨_, rfl⟩
  rw [show set6 w2 R (.int .i64 5) (.int .i64 s) (.int .i64 0) (.string key) (.slice A2 p.length c2) (.bool d) = w3 from hw3.symm] at KR3 OW BW
  rw [← hw3]
  clear hw3
  have q0 := KR3.out.cell 0
  have q1 := KR3.out.cell 1
  have q2 := KR3.out.cell 2
  have q3 := KR3.out.cell 3
  have q4 := KR3.out.cell 4
  have q5 := KR3.out.cell 5
  simp at q0 q1 q2 q3 q4 q5
  go_wp2
  exact bodyPost_ret (v := .agg #[.int .i64 5, .int .i64 s, .int .i64 0, .string key, .slice A2 p.length c2, .bool d]) (by simp [results, Try.results55, go_sem, q0, q1, q2, q3, q4, q5]) rfl ⟨A2, c2, rfl, owns_less OW.out SZ.out, BW.out⟩
set_option maxRecDepth 100000 in
set_option maxHeartbeats 1000000 in
theorem ofWrite_any {w : World} {A : Option Addr} {c : Nat} (v : Vn) (hr : BReads w w.heap.size A v.value) (hl : v.value.length ≤ 140737488355328) :
    Calls Try.prog 40 #[.agg (v.cells A c)] w (GivesE w v.ofWrite) := by
  obtain ⟨key, s, p, d⟩ := v
  unfold Vn.cells
  simp only at hr hl ⊢
  have H0 := Lib.hid hr
  clear hr
  cases d
  · rw [show Vn.ofWrite ⟨key, s, p, false⟩ = ⟨1, 0, 0, key, p, false⟩ from rfl]
    have KT := Lib.hid ((Blk.new w 33 #[.string key, .int .i64 s, .slice A p.length c, .bool false]).alloc (.cells #[.int .i64 0, .int .i64 0, .int .i64 0, .string ⟨#[]⟩, .slice none 0 0, .bool false] 31))
    have KR := Lib.hid (Blk.new (w.alloc (.cells #[.string key, .int .i64 s, .slice A p.length c, .bool false] 33)) 31 #[.int .i64 0, .int .i64 0, .int .i64 0, .string ⟨#[]⟩, .slice none 0 0, .bool false])
    have B0 := Lib.hid (((Below.refl w.heap.size w).alloc (Nat.le_refl _) (.cells #[.string key, .int .i64 s, .slice A p.length c, .bool false] 33)).alloc (by simp) (.cells #[.int .i64 0, .int .i64 0, .int .i64 0, .string ⟨#[]⟩, .slice none 0 0, .bool false] 31))
    go_enter Try.func40, Try.ntmps40
    go_wp2
    obtain ⟨W, hW⟩ : ∃ x, x = (w.alloc (.cells #[.string key, .int .i64 s, .slice A p.length c, .bool false] 33)).alloc (.cells #[.int .i64 0, .int .i64 0, .int .i64 0, .string ⟨#[]⟩, .slice none 0 0, .bool false] 31) := ⟨_, rfl⟩
    obtain ⟨T, hT⟩ : ∃ x, x = w.heap.size := ⟨_, rfl⟩
    obtain ⟨R, hR⟩ : ∃ x, x = w.heap.size + 1 := ⟨_, rfl⟩
    have HT := Lib.hid (show w.heap.size ≤ R from by omega)
    have hTR : ¬ T = R := by omega
    have hRT : ¬ R = T := by omega
    have KR' := Lib.hid (show Blk W R 31 #[.int .i64 0, .int .i64 0, .int .i64 0, .string ⟨#[]⟩, .slice none 0 0, .bool false] from by have := KR.out; rw [hW, hR]; simpa using this)
    rw [← hW, ← hT] at KT
    rw [← hW] at B0
    rw [← hW, ← hR, ← hT]
    clear hW hT hR KR
    have HP := Lib.hid ((H0.out.below B0.out).more B0.out.size)
    have td0 : W.drew.cell? ⟨T, 0, none⟩ = some (.string key) := by have h := KT.out.cell 0; simp at h; exact h
    have td1 : W.drew.cell? ⟨T, 1, none⟩ = some (.int .i64 s) := by have h := KT.out.cell 1; simp at h; exact h
    have td2 : W.drew.cell? ⟨T, 2, none⟩ = some (.slice A p.length c) := by have h := KT.out.cell 2; simp at h; exact h
    have td3 : W.drew.cell? ⟨T, 3, none⟩ = some (.bool false) := by have h := KT.out.cell 3; simp at h; exact h
    go_region_held3 (fun w' => w'.cell? ⟨T, 0, none⟩ = some (.string key) ∧ w'.cell? ⟨T, 1, none⟩ = some (.int .i64 s) ∧ w'.cell? ⟨T, 2, none⟩ = some (.slice A p.length c) ∧ w'.cell? ⟨T, 3, none⟩ = some (.bool false)) (first | (with_reducible exact ⟨td0, td1, td2, td3⟩) | (with_reducible exact ⟨x0, x1, x2, x3⟩) | go_keep) ((go_at_call 74; refine (eown_any (w := W.drew) HP.out hl).mono ?_; rintro e w2 h; obtain ⟨v2, rfl, ho, hb⟩ := h.out; obtain ⟨A2, c2, rfl, _, _⟩ := BOwns.slice ho; have HO := Lib.hid ho; have HB := Lib.hid (show Below W.heap.size W w2 from ⟨hb.os, hb.tape, hb.output, hb.size, hb.block⟩); have KT2 := Lib.hid (KT.out.below' HB.out); have KR2 := Lib.hid (KR'.out.below' HB.out); have x0 := KT2.out.cell 0; have x1 := KT2.out.cell 1; have x2 := KT2.out.cell 2; have x3 := KT2.out.cell 3; have r0 := KR2.out.cell 0; have f0 := KR2.out.frozen 0; have r1 := KR2.out.cell 1; have f1 := KR2.out.frozen 1; have r2 := KR2.out.cell 2; have f2 := KR2.out.frozen 2; have r3 := KR2.out.cell 3; have f3 := KR2.out.frozen 3; have r4 := KR2.out.cell 4; have f4 := KR2.out.frozen 4; have r5 := KR2.out.cell 5; have f5 := KR2.out.frozen 5; simp at x0 x1 x2 x3 r0 r1 r2 r3 r4 r5; clear h ho hb))
    have KR3 := Lib.hid (KR2.out.put6 (.int .i64 1) (.int .i64 0) (.int .i64 0) (.string key) (.slice A2 p.length c2) (.bool false))
    have OW := Lib.hid ((HO.out.farBlk KR2.out (by decide) (keeps_set6 w2 R (.int .i64 1) (.int .i64 0) (.int .i64 0) (.string key) (.slice A2 p.length c2) (.bool false))))
    have SZ := Lib.hid (show w.heap.size ≤ W.drew.heap.size from B0.out.size)
    have BW := Lib.hid (show Below w.heap.size w (set6 w2 R (.int .i64 1) (.int .i64 0) (.int .i64 0) (.string key) (.slice A2 p.length c2) (.bool false)) from (B0.out.trans (HB.out.mono B0.out.size)).trans ((keeps_set6 w2 R (.int .i64 1) (.int .i64 0) (.int .i64 0) (.string key) (.slice A2 p.length c2) (.bool false)).below (B0.out.trans (HB.out.mono B0.out.size)).size (fun i hi => by rw [hi]; exact HT.out)))
    clear x0 x1 x2 x3 r0 f0 r1 f1 r2 f2 r3 f3 r4 f4 r5 f5 td0 td1 td2 td3
    obtain ⟨w3, hw3⟩ : ∃ x, x = ((((((w2.setCell ⟨R, 0, none⟩ (.int .i64 1)).setCell ⟨R, 1, none⟩ (.int .i64 0)).setCell ⟨R, 2, none⟩ (.int .i64 0)).setCell ⟨R, 3, none⟩ (.string key)).setCell ⟨R, 4, none⟩ (.slice A2 p.length c2)).setCell ⟨R, 5, none⟩ (.bool false)) := ⟨_, rfl⟩
    rw [show set6 w2 R (.int .i64 1) (.int .i64 0) (.int .i64 0) (.string key) (.slice A2 p.length c2) (.bool false) = w3 from hw3.symm] at KR3 OW BW
    rw [← hw3]
    clear hw3
    have q0 := KR3.out.cell 0
    have q1 := KR3.out.cell 1
    have q2 := KR3.out.cell 2
    have q3 := KR3.out.cell 3
    have q4 := KR3.out.cell 4
    have q5 := KR3.out.cell 5
    simp at q0 q1 q2 q3 q4 q5
    go_wp2
    exact bodyPost_ret (v := .agg #[.int .i64 1, .int .i64 0, .int .i64 0, .string key, .slice A2 p.length c2, .bool false]) (by simp [results, Try.results40, go_sem, q0, q1, q2, q3, q4, q5]) rfl ⟨A2, c2, rfl, owns_less OW.out SZ.out, BW.out⟩
  · rw [show Vn.ofWrite ⟨key, s, p, true⟩ = ⟨2, 0, 0, key, [], false⟩ from rfl]
    go_enter Try.func40, Try.ntmps40
    go_wp2
    exact bodyPost_ret (v := .agg #[.int .i64 2, .int .i64 0, .int .i64 0, .string key, .slice none 0 0, .bool false]) (by simp [results, Try.results40, go_sem]) rfl ⟨none, 0, rfl, BOwns.nil _ _, ((Below.refl w.heap.size w).alloc (Nat.le_refl _) _).alloc (by simp) _⟩
set_option maxRecDepth 100000 in
set_option maxHeartbeats 1000000 in
theorem version_any {w : World} {A : Option Addr} {c : Nat} (x : En) (hr : BReads w w.heap.size A x.value) (hl : x.value.length ≤ 140737488355328) :
    Calls Try.prog 86 #[.agg (x.cells A c)] w (GivesV w x.version) := by
  obtain ⟨k, s, n, key, p, d⟩ := x
  unfold En.cells
  simp only at hr hl ⊢
  have H0 := Lib.hid hr
  clear hr
  by_cases h1 : k = 1
  · subst h1
    rw [show En.version ⟨1, s, n, key, p, d⟩ = (⟨key, 0, p, false⟩, true) from rfl]
    have KT := Lib.hid ((Blk.new w 31 #[.int .i64 1, .int .i64 s, .int .i64 n, .string key, .slice A p.length c, .bool d]).alloc (.cells #[.string ⟨#[]⟩, .int .i64 0, .slice none 0 0, .bool false] 33))
    have KR := Lib.hid (Blk.new (w.alloc (.cells #[.int .i64 1, .int .i64 s, .int .i64 n, .string key, .slice A p.length c, .bool d] 31)) 33 #[.string ⟨#[]⟩, .int .i64 0, .slice none 0 0, .bool false])
    have B0 := Lib.hid (((Below.refl w.heap.size w).alloc (Nat.le_refl _) (.cells #[.int .i64 1, .int .i64 s, .int .i64 n, .string key, .slice A p.length c, .bool d] 31)).alloc (by simp) (.cells #[.string ⟨#[]⟩, .int .i64 0, .slice none 0 0, .bool false] 33))
    go_enter Try.func86, Try.ntmps86
    go_wp2
    obtain ⟨W, hW⟩ : ∃ x, x = (w.alloc (.cells #[.int .i64 1, .int .i64 s, .int .i64 n, .string key, .slice A p.length c, .bool d] 31)).alloc (.cells #[.string ⟨#[]⟩, .int .i64 0, .slice none 0 0, .bool false] 33) := ⟨_, rfl⟩
    obtain ⟨T, hT⟩ : ∃ x, x = w.heap.size := ⟨_, rfl⟩
    obtain ⟨R, hR⟩ : ∃ x, x = w.heap.size + 1 := ⟨_, rfl⟩
    have HT := Lib.hid (show w.heap.size ≤ R from by omega)
    have hTR : ¬ T = R := by omega
    have hRT : ¬ R = T := by omega
    have KR' := Lib.hid (show Blk W R 33 #[.string ⟨#[]⟩, .int .i64 0, .slice none 0 0, .bool false] from by have := KR.out; rw [hW, hR]; simpa using this)
    rw [← hW, ← hT] at KT
    rw [← hW] at B0
    rw [← hW, ← hR, ← hT]
    clear hW hT hR KR
    have HP := Lib.hid ((H0.out.below B0.out).more B0.out.size)
    have td0 : W.drew.cell? ⟨T, 0, none⟩ = some (.int .i64 1) := by have h := KT.out.cell 0; simp at h; exact h
    have td1 : W.drew.cell? ⟨T, 1, none⟩ = some (.int .i64 s) := by have h := KT.out.cell 1; simp at h; exact h
    have td2 : W.drew.cell? ⟨T, 2, none⟩ = some (.int .i64 n) := by have h := KT.out.cell 2; simp at h; exact h
    have td3 : W.drew.cell? ⟨T, 3, none⟩ = some (.string key) := by have h := KT.out.cell 3; simp at h; exact h
    have td4 : W.drew.cell? ⟨T, 4, none⟩ = some (.slice A p.length c) := by have h := KT.out.cell 4; simp at h; exact h
    have td5 : W.drew.cell? ⟨T, 5, none⟩ = some (.bool d) := by have h := KT.out.cell 5; simp at h; exact h
    go_region_held3 (fun w' => w'.cell? ⟨T, 0, none⟩ = some (.int .i64 1) ∧ w'.cell? ⟨T, 1, none⟩ = some (.int .i64 s) ∧ w'.cell? ⟨T, 2, none⟩ = some (.int .i64 n) ∧ w'.cell? ⟨T, 3, none⟩ = some (.string key) ∧ w'.cell? ⟨T, 4, none⟩ = some (.slice A p.length c) ∧ w'.cell? ⟨T, 5, none⟩ = some (.bool d)) (first | (with_reducible exact ⟨td0, td1, td2, td3, td4, td5⟩) | (with_reducible exact ⟨x0, x1, x2, x3, x4, x5⟩) | go_keep) ((go_at_call 74; refine (eown_any (w := W.drew) HP.out hl).mono ?_; rintro e w2 h; obtain ⟨v2, rfl, ho, hb⟩ := h.out; obtain ⟨A2, c2, rfl, _, _⟩ := BOwns.slice ho; have HO := Lib.hid ho; have HB := Lib.hid (show Below W.heap.size W w2 from ⟨hb.os, hb.tape, hb.output, hb.size, hb.block⟩); have KT2 := Lib.hid (KT.out.below' HB.out); have KR2 := Lib.hid (KR'.out.below' HB.out); have x0 := KT2.out.cell 0; have x1 := KT2.out.cell 1; have x2 := KT2.out.cell 2; have x3 := KT2.out.cell 3; have x4 := KT2.out.cell 4; have x5 := KT2.out.cell 5; have r0 := KR2.out.cell 0; have f0 := KR2.out.frozen 0; have r1 := KR2.out.cell 1; have f1 := KR2.out.frozen 1; have r2 := KR2.out.cell 2; have f2 := KR2.out.frozen 2; have r3 := KR2.out.cell 3; have f3 := KR2.out.frozen 3; simp at x0 x1 x2 x3 x4 x5 r0 r1 r2 r3; clear h ho hb))
    have KR3 := Lib.hid (KR2.out.put4 (.string key) (.int .i64 0) (.slice A2 p.length c2) (.bool false))
    have OW := Lib.hid ((HO.out.farBlk KR2.out (by decide) (keeps_set4 w2 R (.string key) (.int .i64 0) (.slice A2 p.length c2) (.bool false))))
    have SZ := Lib.hid (show w.heap.size ≤ W.drew.heap.size from B0.out.size)
    have BW := Lib.hid (show Below w.heap.size w (set4 w2 R (.string key) (.int .i64 0) (.slice A2 p.length c2) (.bool false)) from (B0.out.trans (HB.out.mono B0.out.size)).trans ((keeps_set4 w2 R (.string key) (.int .i64 0) (.slice A2 p.length c2) (.bool false)).below (B0.out.trans (HB.out.mono B0.out.size)).size (fun i hi => by rw [hi]; exact HT.out)))
    clear x0 x1 x2 x3 x4 x5 r0 f0 r1 f1 r2 f2 r3 f3 td0 td1 td2 td3 td4 td5
    obtain ⟨w3, hw3⟩ : ∃ x, x = ((((w2.setCell ⟨R, 0, none⟩ (.string key)).setCell ⟨R, 1, none⟩ (.int .i64 0)).setCell ⟨R, 2, none⟩ (.slice A2 p.length c2)).setCell ⟨R, 3, none⟩ (.bool false)) := ⟨_, rfl⟩
    rw [show set4 w2 R (.string key) (.int .i64 0) (.slice A2 p.length c2) (.bool false) = w3 from hw3.symm] at KR3 OW BW
    rw [← hw3]
    clear hw3
    have q0 := KR3.out.cell 0
    have q1 := KR3.out.cell 1
    have q2 := KR3.out.cell 2
    have q3 := KR3.out.cell 3
    simp at q0 q1 q2 q3
    go_wp2
    exact bodyPost_ret (v := .tuple #[.agg #[.string key, .int .i64 0, .slice A2 p.length c2, .bool false], .bool true]) (by simp [results, Try.results86, go_sem, q0, q1, q2, q3]) rfl ⟨A2, c2, rfl, owns_less OW.out SZ.out, BW.out⟩
  by_cases h2 : k = 2
  · subst h2
    rw [show En.version ⟨2, s, n, key, p, d⟩ = (⟨key, 0, [], true⟩, true) from rfl]
    go_enter Try.func86, Try.ntmps86
    go_wp2
    exact bodyPost_ret (v := .tuple #[.agg #[.string key, .int .i64 0, .slice none 0 0, .bool true], .bool true]) (by simp [results, Try.results86, go_sem]) rfl ⟨none, 0, rfl, BOwns.nil _ _, ((Below.refl w.heap.size w).alloc (Nat.le_refl _) _).alloc (by simp) _⟩
  by_cases h5 : k = 5
  · subst h5
    rw [show En.version ⟨5, s, n, key, p, d⟩ = (⟨key, s, p, d⟩, true) from rfl]
    have KT := Lib.hid ((Blk.new w 31 #[.int .i64 5, .int .i64 s, .int .i64 n, .string key, .slice A p.length c, .bool d]).alloc (.cells #[.string ⟨#[]⟩, .int .i64 0, .slice none 0 0, .bool false] 33))
    have KR := Lib.hid (Blk.new (w.alloc (.cells #[.int .i64 5, .int .i64 s, .int .i64 n, .string key, .slice A p.length c, .bool d] 31)) 33 #[.string ⟨#[]⟩, .int .i64 0, .slice none 0 0, .bool false])
    have B0 := Lib.hid (((Below.refl w.heap.size w).alloc (Nat.le_refl _) (.cells #[.int .i64 5, .int .i64 s, .int .i64 n, .string key, .slice A p.length c, .bool d] 31)).alloc (by simp) (.cells #[.string ⟨#[]⟩, .int .i64 0, .slice none 0 0, .bool false] 33))
    go_enter Try.func86, Try.ntmps86
    go_wp2
    obtain ⟨W, hW⟩ : ∃ x, x = (w.alloc (.cells #[.int .i64 5, .int .i64 s, .int .i64 n, .string key, .slice A p.length c, .bool d] 31)).alloc (.cells #[.string ⟨#[]⟩, .int .i64 0, .slice none 0 0, .bool false] 33) := ⟨_, rfl⟩
    obtain ⟨T, hT⟩ : ∃ x, x = w.heap.size := ⟨_, rfl⟩
    obtain ⟨R, hR⟩ : ∃ x, x = w.heap.size + 1 := ⟨_, rfl⟩
    have HT := Lib.hid (show w.heap.size ≤ R from by omega)
    have hTR : ¬ T = R := by omega
    have hRT : ¬ R = T := by omega
    have KR' := Lib.hid (show Blk W R 33 #[.string ⟨#[]⟩, .int .i64 0, .slice none 0 0, .bool false] from by have := KR.out; rw [hW, hR]; simpa using this)
    rw [← hW, ← hT] at KT
    rw [← hW] at B0
    rw [← hW, ← hR, ← hT]
    clear hW hT hR KR
    have HP := Lib.hid ((H0.out.below B0.out).more B0.out.size)
    have td0 : W.drew.cell? ⟨T, 0, none⟩ = some (.int .i64 5) := by have h := KT.out.cell 0; simp at h; exact h
    have td1 : W.drew.cell? ⟨T, 1, none⟩ = some (.int .i64 s) := by have h := KT.out.cell 1; simp at h; exact h
    have td2 : W.drew.cell? ⟨T, 2, none⟩ = some (.int .i64 n) := by have h := KT.out.cell 2; simp at h; exact h
    have td3 : W.drew.cell? ⟨T, 3, none⟩ = some (.string key) := by have h := KT.out.cell 3; simp at h; exact h
    have td4 : W.drew.cell? ⟨T, 4, none⟩ = some (.slice A p.length c) := by have h := KT.out.cell 4; simp at h; exact h
    have td5 : W.drew.cell? ⟨T, 5, none⟩ = some (.bool d) := by have h := KT.out.cell 5; simp at h; exact h
    go_region_held3 (fun w' => w'.cell? ⟨T, 0, none⟩ = some (.int .i64 5) ∧ w'.cell? ⟨T, 1, none⟩ = some (.int .i64 s) ∧ w'.cell? ⟨T, 2, none⟩ = some (.int .i64 n) ∧ w'.cell? ⟨T, 3, none⟩ = some (.string key) ∧ w'.cell? ⟨T, 4, none⟩ = some (.slice A p.length c) ∧ w'.cell? ⟨T, 5, none⟩ = some (.bool d)) (first | (with_reducible exact ⟨td0, td1, td2, td3, td4, td5⟩) | (with_reducible exact ⟨x0, x1, x2, x3, x4, x5⟩) | go_keep) ((go_at_call 74; refine (eown_any (w := W.drew) HP.out hl).mono ?_; rintro e w2 h; obtain ⟨v2, rfl, ho, hb⟩ := h.out; obtain ⟨A2, c2, rfl, _, _⟩ := BOwns.slice ho; have HO := Lib.hid ho; have HB := Lib.hid (show Below W.heap.size W w2 from ⟨hb.os, hb.tape, hb.output, hb.size, hb.block⟩); have KT2 := Lib.hid (KT.out.below' HB.out); have KR2 := Lib.hid (KR'.out.below' HB.out); have x0 := KT2.out.cell 0; have x1 := KT2.out.cell 1; have x2 := KT2.out.cell 2; have x3 := KT2.out.cell 3; have x4 := KT2.out.cell 4; have x5 := KT2.out.cell 5; have r0 := KR2.out.cell 0; have f0 := KR2.out.frozen 0; have r1 := KR2.out.cell 1; have f1 := KR2.out.frozen 1; have r2 := KR2.out.cell 2; have f2 := KR2.out.frozen 2; have r3 := KR2.out.cell 3; have f3 := KR2.out.frozen 3; simp at x0 x1 x2 x3 x4 x5 r0 r1 r2 r3; clear h ho hb))
    have KR3 := Lib.hid (KR2.out.put4 (.string key) (.int .i64 s) (.slice A2 p.length c2) (.bool d))
    have OW := Lib.hid ((HO.out.farBlk KR2.out (by decide) (keeps_set4 w2 R (.string key) (.int .i64 s) (.slice A2 p.length c2) (.bool d))))
    have SZ := Lib.hid (show w.heap.size ≤ W.drew.heap.size from B0.out.size)
    have BW := Lib.hid (show Below w.heap.size w (set4 w2 R (.string key) (.int .i64 s) (.slice A2 p.length c2) (.bool d)) from (B0.out.trans (HB.out.mono B0.out.size)).trans ((keeps_set4 w2 R (.string key) (.int .i64 s) (.slice A2 p.length c2) (.bool d)).below (B0.out.trans (HB.out.mono B0.out.size)).size (fun i hi => by rw [hi]; exact HT.out)))
    clear x0 x1 x2 x3 x4 x5 r0 f0 r1 f1 r2 f2 r3 f3 td0 td1 td2 td3 td4 td5
    obtain ⟨w3, hw3⟩ : ∃ x, x = ((((w2.setCell ⟨R, 0, none⟩ (.string key)).setCell ⟨R, 1, none⟩ (.int .i64 s)).setCell ⟨R, 2, none⟩ (.slice A2 p.length c2)).setCell ⟨R, 3, none⟩ (.bool d)) := ⟨_, rfl⟩
    rw [show set4 w2 R (.string key) (.int .i64 s) (.slice A2 p.length c2) (.bool d) = w3 from hw3.symm] at KR3 OW BW
    rw [← hw3]
    clear hw3
    have q0 := KR3.out.cell 0
    have q1 := KR3.out.cell 1
    have q2 := KR3.out.cell 2
    have q3 := KR3.out.cell 3
    simp at q0 q1 q2 q3
    go_wp2
    exact bodyPost_ret (v := .tuple #[.agg #[.string key, .int .i64 s, .slice A2 p.length c2, .bool d], .bool true]) (by simp [results, Try.results86, go_sem, q0, q1, q2, q3]) rfl ⟨A2, c2, rfl, owns_less OW.out SZ.out, BW.out⟩
  rw [show En.version ⟨k, s, n, key, p, d⟩ = (⟨⟨#[]⟩, 0, [], false⟩, false) from by unfold En.version; rw [if_neg h1, if_neg h2, if_neg h5]]
  have k1 : (k == 1) = false := by rw [beq_eq_false_iff_ne]; exact h1
  have k2 : (k == 2) = false := by rw [beq_eq_false_iff_ne]; exact h2
  have k5 : (k == 5) = false := by rw [beq_eq_false_iff_ne]; exact h5
  clear h1 h2 h5
  go_enter Try.func86, Try.ntmps86
  go_wp2
  exact bodyPost_ret (v := .tuple #[.agg #[.string ⟨#[]⟩, .int .i64 0, .slice none 0 0, .bool false], .bool false]) (by simp [results, Try.results86, go_sem]) rfl ⟨none, 0, rfl, BOwns.nil _ _, ((Below.refl w.heap.size w).alloc (Nat.le_refl _) _).alloc (by simp) _⟩
set_option maxRecDepth 100000 in
set_option maxHeartbeats 1000000 in
theorem rofVersion_any {w : World} {A : Option Addr} {c : Nat} (v : Vn) (hr : BReads w w.heap.size A v.value) (hl : v.value.length ≤ 140737488355328) :
    Calls Try.prog 66 #[.agg (v.cells A c)] w (GivesE w v.ofVersion) := by
  obtain ⟨key, s, p, d⟩ := v
  unfold Vn.cells
  simp only at hr hl ⊢
  have H0 := Lib.hid hr
  clear hr
  have KT := Lib.hid ((Blk.new w 33 #[.string key, .int .i64 s, .slice A p.length c, .bool d]).alloc (.cells #[.int .i64 0, .int .i64 0, .int .i64 0, .string ⟨#[]⟩, .slice none 0 0, .bool false] 31))
  have KR := Lib.hid (Blk.new (w.alloc (.cells #[.string key, .int .i64 s, .slice A p.length c, .bool d] 33)) 31 #[.int .i64 0, .int .i64 0, .int .i64 0, .string ⟨#[]⟩, .slice none 0 0, .bool false])
  have B0 := Lib.hid (((Below.refl w.heap.size w).alloc (Nat.le_refl _) (.cells #[.string key, .int .i64 s, .slice A p.length c, .bool d] 33)).alloc (by simp) (.cells #[.int .i64 0, .int .i64 0, .int .i64 0, .string ⟨#[]⟩, .slice none 0 0, .bool false] 31))
  go_enter Try.func66, Try.ntmps66
  go_wp2
  obtain ⟨W, hW⟩ : ∃ x, x = (w.alloc (.cells #[.string key, .int .i64 s, .slice A p.length c, .bool d] 33)).alloc (.cells #[.int .i64 0, .int .i64 0, .int .i64 0, .string ⟨#[]⟩, .slice none 0 0, .bool false] 31) := ⟨_, rfl⟩
  obtain ⟨T, hT⟩ : ∃ x, x = w.heap.size := ⟨_, rfl⟩
  obtain ⟨R, hR⟩ : ∃ x, x = w.heap.size + 1 := ⟨_, rfl⟩
  have HT := Lib.hid (show w.heap.size ≤ R from by omega)
  have hTR : ¬ T = R := by omega
  have hRT : ¬ R = T := by omega
  have KR' := Lib.hid (show Blk W R 31 #[.int .i64 0, .int .i64 0, .int .i64 0, .string ⟨#[]⟩, .slice none 0 0, .bool false] from by have := KR.out; rw [hW, hR]; simpa using this)
  rw [← hW, ← hT] at KT
  rw [← hW] at B0
  rw [← hW, ← hR, ← hT]
  clear hW hT hR KR
  have HP := Lib.hid ((H0.out.below B0.out).more B0.out.size)
  have td0 : W.drew.cell? ⟨T, 0, none⟩ = some (.string key) := by have h := KT.out.cell 0; simp at h; exact h
  have td1 : W.drew.cell? ⟨T, 1, none⟩ = some (.int .i64 s) := by have h := KT.out.cell 1; simp at h; exact h
  have td2 : W.drew.cell? ⟨T, 2, none⟩ = some (.slice A p.length c) := by have h := KT.out.cell 2; simp at h; exact h
  have td3 : W.drew.cell? ⟨T, 3, none⟩ = some (.bool d) := by have h := KT.out.cell 3; simp at h; exact h
  go_region_held3 (fun w' => w'.cell? ⟨T, 0, none⟩ = some (.string key) ∧ w'.cell? ⟨T, 1, none⟩ = some (.int .i64 s) ∧ w'.cell? ⟨T, 2, none⟩ = some (.slice A p.length c) ∧ w'.cell? ⟨T, 3, none⟩ = some (.bool d)) (first | (with_reducible exact ⟨td0, td1, td2, td3⟩) | (with_reducible exact ⟨x0, x1, x2, x3⟩) | go_keep) ((go_at_call 75; refine (rown_any (w := W.drew) HP.out hl).mono ?_; rintro e w2 h; obtain ⟨v2, rfl, ho, hb⟩ := h.out; obtain ⟨A2, c2, rfl, _, _⟩ := BOwns.slice ho; have HO := Lib.hid ho; have HB := Lib.hid (show Below W.heap.size W w2 from ⟨hb.os, hb.tape, hb.output, hb.size, hb.block⟩); have KT2 := Lib.hid (KT.out.below' HB.out); have KR2 := Lib.hid (KR'.out.below' HB.out); have x0 := KT2.out.cell 0; have x1 := KT2.out.cell 1; have x2 := KT2.out.cell 2; have x3 := KT2.out.cell 3; have r0 := KR2.out.cell 0; have f0 := KR2.out.frozen 0; have r1 := KR2.out.cell 1; have f1 := KR2.out.frozen 1; have r2 := KR2.out.cell 2; have f2 := KR2.out.frozen 2; have r3 := KR2.out.cell 3; have f3 := KR2.out.frozen 3; have r4 := KR2.out.cell 4; have f4 := KR2.out.frozen 4; have r5 := KR2.out.cell 5; have f5 := KR2.out.frozen 5; simp at x0 x1 x2 x3 r0 r1 r2 r3 r4 r5; clear h ho hb))
  have KR3 := Lib.hid (KR2.out.put6 (.int .i64 5) (.int .i64 s) (.int .i64 0) (.string key) (.slice A2 p.length c2) (.bool d))
  have OW := Lib.hid ((HO.out.farBlk KR2.out (by decide) (keeps_set6 w2 R (.int .i64 5) (.int .i64 s) (.int .i64 0) (.string key) (.slice A2 p.length c2) (.bool d))))
  have SZ := Lib.hid (show w.heap.size ≤ W.drew.heap.size from B0.out.size)
  have BW := Lib.hid (show Below w.heap.size w (set6 w2 R (.int .i64 5) (.int .i64 s) (.int .i64 0) (.string key) (.slice A2 p.length c2) (.bool d)) from (B0.out.trans (HB.out.mono B0.out.size)).trans ((keeps_set6 w2 R (.int .i64 5) (.int .i64 s) (.int .i64 0) (.string key) (.slice A2 p.length c2) (.bool d)).below (B0.out.trans (HB.out.mono B0.out.size)).size (fun i hi => by rw [hi]; exact HT.out)))
  clear x0 x1 x2 x3 r0 f0 r1 f1 r2 f2 r3 f3 r4 f4 r5 f5 td0 td1 td2 td3
  obtain ⟨w3, hw3⟩ : ∃ x, x = ((((((w2.setCell ⟨R, 0, none⟩ (.int .i64 5)).setCell ⟨R, 1, none⟩ (.int .i64 s)).setCell ⟨R, 2, none⟩ (.int .i64 0)).setCell ⟨R, 3, none⟩ (.string key)).setCell ⟨R, 4, none⟩ (.slice A2 p.length c2)).setCell ⟨R, 5, none⟩ (.bool d)) := ⟨_, rfl⟩
  rw [show set6 w2 R (.int .i64 5) (.int .i64 s) (.int .i64 0) (.string key) (.slice A2 p.length c2) (.bool d) = w3 from hw3.symm] at KR3 OW BW
  rw [← hw3]
  clear hw3
  have q0 := KR3.out.cell 0
  have q1 := KR3.out.cell 1
  have q2 := KR3.out.cell 2
  have q3 := KR3.out.cell 3
  have q4 := KR3.out.cell 4
  have q5 := KR3.out.cell 5
  simp at q0 q1 q2 q3 q4 q5
  go_wp2
  exact bodyPost_ret (v := .agg #[.int .i64 5, .int .i64 s, .int .i64 0, .string key, .slice A2 p.length c2, .bool d]) (by simp [results, Try.results66, go_sem, q0, q1, q2, q3, q4, q5]) rfl ⟨A2, c2, rfl, owns_less OW.out SZ.out, BW.out⟩
set_option maxRecDepth 100000 in
set_option maxHeartbeats 1000000 in
theorem rofWrite_any {w : World} {A : Option Addr} {c : Nat} (v : Vn) (hr : BReads w w.heap.size A v.value) (hl : v.value.length ≤ 140737488355328) :
    Calls Try.prog 41 #[.agg (v.cells A c)] w (GivesE w v.ofWrite) := by
  obtain ⟨key, s, p, d⟩ := v
  unfold Vn.cells
  simp only at hr hl ⊢
  have H0 := Lib.hid hr
  clear hr
  cases d
  · rw [show Vn.ofWrite ⟨key, s, p, false⟩ = ⟨1, 0, 0, key, p, false⟩ from rfl]
    have KT := Lib.hid ((Blk.new w 33 #[.string key, .int .i64 s, .slice A p.length c, .bool false]).alloc (.cells #[.int .i64 0, .int .i64 0, .int .i64 0, .string ⟨#[]⟩, .slice none 0 0, .bool false] 31))
    have KR := Lib.hid (Blk.new (w.alloc (.cells #[.string key, .int .i64 s, .slice A p.length c, .bool false] 33)) 31 #[.int .i64 0, .int .i64 0, .int .i64 0, .string ⟨#[]⟩, .slice none 0 0, .bool false])
    have B0 := Lib.hid (((Below.refl w.heap.size w).alloc (Nat.le_refl _) (.cells #[.string key, .int .i64 s, .slice A p.length c, .bool false] 33)).alloc (by simp) (.cells #[.int .i64 0, .int .i64 0, .int .i64 0, .string ⟨#[]⟩, .slice none 0 0, .bool false] 31))
    go_enter Try.func41, Try.ntmps41
    go_wp2
    obtain ⟨W, hW⟩ : ∃ x, x = (w.alloc (.cells #[.string key, .int .i64 s, .slice A p.length c, .bool false] 33)).alloc (.cells #[.int .i64 0, .int .i64 0, .int .i64 0, .string ⟨#[]⟩, .slice none 0 0, .bool false] 31) := ⟨_, rfl⟩
    obtain ⟨T, hT⟩ : ∃ x, x = w.heap.size := ⟨_, rfl⟩
    obtain ⟨R, hR⟩ : ∃ x, x = w.heap.size + 1 := ⟨_, rfl⟩
    have HT := Lib.hid (show w.heap.size ≤ R from by omega)
    have hTR : ¬ T = R := by omega
    have hRT : ¬ R = T := by omega
    have KR' := Lib.hid (show Blk W R 31 #[.int .i64 0, .int .i64 0, .int .i64 0, .string ⟨#[]⟩, .slice none 0 0, .bool false] from by have := KR.out; rw [hW, hR]; simpa using this)
    rw [← hW, ← hT] at KT
    rw [← hW] at B0
    rw [← hW, ← hR, ← hT]
    clear hW hT hR KR
    have HP := Lib.hid ((H0.out.below B0.out).more B0.out.size)
    have td0 : W.drew.cell? ⟨T, 0, none⟩ = some (.string key) := by have h := KT.out.cell 0; simp at h; exact h
    have td1 : W.drew.cell? ⟨T, 1, none⟩ = some (.int .i64 s) := by have h := KT.out.cell 1; simp at h; exact h
    have td2 : W.drew.cell? ⟨T, 2, none⟩ = some (.slice A p.length c) := by have h := KT.out.cell 2; simp at h; exact h
    have td3 : W.drew.cell? ⟨T, 3, none⟩ = some (.bool false) := by have h := KT.out.cell 3; simp at h; exact h
    go_region_held3 (fun w' => w'.cell? ⟨T, 0, none⟩ = some (.string key) ∧ w'.cell? ⟨T, 1, none⟩ = some (.int .i64 s) ∧ w'.cell? ⟨T, 2, none⟩ = some (.slice A p.length c) ∧ w'.cell? ⟨T, 3, none⟩ = some (.bool false)) (first | (with_reducible exact ⟨td0, td1, td2, td3⟩) | (with_reducible exact ⟨x0, x1, x2, x3⟩) | go_keep) ((go_at_call 75; refine (rown_any (w := W.drew) HP.out hl).mono ?_; rintro e w2 h; obtain ⟨v2, rfl, ho, hb⟩ := h.out; obtain ⟨A2, c2, rfl, _, _⟩ := BOwns.slice ho; have HO := Lib.hid ho; have HB := Lib.hid (show Below W.heap.size W w2 from ⟨hb.os, hb.tape, hb.output, hb.size, hb.block⟩); have KT2 := Lib.hid (KT.out.below' HB.out); have KR2 := Lib.hid (KR'.out.below' HB.out); have x0 := KT2.out.cell 0; have x1 := KT2.out.cell 1; have x2 := KT2.out.cell 2; have x3 := KT2.out.cell 3; have r0 := KR2.out.cell 0; have f0 := KR2.out.frozen 0; have r1 := KR2.out.cell 1; have f1 := KR2.out.frozen 1; have r2 := KR2.out.cell 2; have f2 := KR2.out.frozen 2; have r3 := KR2.out.cell 3; have f3 := KR2.out.frozen 3; have r4 := KR2.out.cell 4; have f4 := KR2.out.frozen 4; have r5 := KR2.out.cell 5; have f5 := KR2.out.frozen 5; simp at x0 x1 x2 x3 r0 r1 r2 r3 r4 r5; clear h ho hb))
    have KR3 := Lib.hid (KR2.out.put6 (.int .i64 1) (.int .i64 0) (.int .i64 0) (.string key) (.slice A2 p.length c2) (.bool false))
    have OW := Lib.hid ((HO.out.farBlk KR2.out (by decide) (keeps_set6 w2 R (.int .i64 1) (.int .i64 0) (.int .i64 0) (.string key) (.slice A2 p.length c2) (.bool false))))
    have SZ := Lib.hid (show w.heap.size ≤ W.drew.heap.size from B0.out.size)
    have BW := Lib.hid (show Below w.heap.size w (set6 w2 R (.int .i64 1) (.int .i64 0) (.int .i64 0) (.string key) (.slice A2 p.length c2) (.bool false)) from (B0.out.trans (HB.out.mono B0.out.size)).trans ((keeps_set6 w2 R (.int .i64 1) (.int .i64 0) (.int .i64 0) (.string key) (.slice A2 p.length c2) (.bool false)).below (B0.out.trans (HB.out.mono B0.out.size)).size (fun i hi => by rw [hi]; exact HT.out)))
    clear x0 x1 x2 x3 r0 f0 r1 f1 r2 f2 r3 f3 r4 f4 r5 f5 td0 td1 td2 td3
    obtain ⟨w3, hw3⟩ : ∃ x, x = ((((((w2.setCell ⟨R, 0, none⟩ (.int .i64 1)).setCell ⟨R, 1, none⟩ (.int .i64 0)).setCell ⟨R, 2, none⟩ (.int .i64 0)).setCell ⟨R, 3, none⟩ (.string key)).setCell ⟨R, 4, none⟩ (.slice A2 p.length c2)).setCell ⟨R, 5, none⟩ (.bool false)) := ⟨_, rfl⟩
    rw [show set6 w2 R (.int .i64 1) (.int .i64 0) (.int .i64 0) (.string key) (.slice A2 p.length c2) (.bool false) = w3 from hw3.symm] at KR3 OW BW
    rw [← hw3]
    clear hw3
    have q0 := KR3.out.cell 0
    have q1 := KR3.out.cell 1
    have q2 := KR3.out.cell 2
    have q3 := KR3.out.cell 3
    have q4 := KR3.out.cell 4
    have q5 := KR3.out.cell 5
    simp at q0 q1 q2 q3 q4 q5
    go_wp2
    exact bodyPost_ret (v := .agg #[.int .i64 1, .int .i64 0, .int .i64 0, .string key, .slice A2 p.length c2, .bool false]) (by simp [results, Try.results41, go_sem, q0, q1, q2, q3, q4, q5]) rfl ⟨A2, c2, rfl, owns_less OW.out SZ.out, BW.out⟩
  · rw [show Vn.ofWrite ⟨key, s, p, true⟩ = ⟨2, 0, 0, key, [], false⟩ from rfl]
    go_enter Try.func41, Try.ntmps41
    go_wp2
    exact bodyPost_ret (v := .agg #[.int .i64 2, .int .i64 0, .int .i64 0, .string key, .slice none 0 0, .bool false]) (by simp [results, Try.results41, go_sem]) rfl ⟨none, 0, rfl, BOwns.nil _ _, ((Below.refl w.heap.size w).alloc (Nat.le_refl _) _).alloc (by simp) _⟩
set_option maxRecDepth 100000 in
set_option maxHeartbeats 1000000 in
theorem rversion_any {w : World} {A : Option Addr} {c : Nat} (x : En) (hr : BReads w w.heap.size A x.value) (hl : x.value.length ≤ 140737488355328) :
    Calls Try.prog 97 #[.agg (x.cells A c)] w (GivesV w x.version) := by
  obtain ⟨k, s, n, key, p, d⟩ := x
  unfold En.cells
  simp only at hr hl ⊢
  have H0 := Lib.hid hr
  clear hr
  by_cases h1 : k = 1
  · subst h1
    rw [show En.version ⟨1, s, n, key, p, d⟩ = (⟨key, 0, p, false⟩, true) from rfl]
    have KT := Lib.hid ((Blk.new w 31 #[.int .i64 1, .int .i64 s, .int .i64 n, .string key, .slice A p.length c, .bool d]).alloc (.cells #[.string ⟨#[]⟩, .int .i64 0, .slice none 0 0, .bool false] 33))
    have KR := Lib.hid (Blk.new (w.alloc (.cells #[.int .i64 1, .int .i64 s, .int .i64 n, .string key, .slice A p.length c, .bool d] 31)) 33 #[.string ⟨#[]⟩, .int .i64 0, .slice none 0 0, .bool false])
    have B0 := Lib.hid (((Below.refl w.heap.size w).alloc (Nat.le_refl _) (.cells #[.int .i64 1, .int .i64 s, .int .i64 n, .string key, .slice A p.length c, .bool d] 31)).alloc (by simp) (.cells #[.string ⟨#[]⟩, .int .i64 0, .slice none 0 0, .bool false] 33))
    go_enter Try.func97, Try.ntmps97
    go_wp2
    obtain ⟨W, hW⟩ : ∃ x, x = (w.alloc (.cells #[.int .i64 1, .int .i64 s, .int .i64 n, .string key, .slice A p.length c, .bool d] 31)).alloc (.cells #[.string ⟨#[]⟩, .int .i64 0, .slice none 0 0, .bool false] 33) := ⟨_, rfl⟩
    obtain ⟨T, hT⟩ : ∃ x, x = w.heap.size := ⟨_, rfl⟩
    obtain ⟨R, hR⟩ : ∃ x, x = w.heap.size + 1 := ⟨_, rfl⟩
    have HT := Lib.hid (show w.heap.size ≤ R from by omega)
    have hTR : ¬ T = R := by omega
    have hRT : ¬ R = T := by omega
    have KR' := Lib.hid (show Blk W R 33 #[.string ⟨#[]⟩, .int .i64 0, .slice none 0 0, .bool false] from by have := KR.out; rw [hW, hR]; simpa using this)
    rw [← hW, ← hT] at KT
    rw [← hW] at B0
    rw [← hW, ← hR, ← hT]
    clear hW hT hR KR
    have HP := Lib.hid ((H0.out.below B0.out).more B0.out.size)
    have td0 : W.drew.cell? ⟨T, 0, none⟩ = some (.int .i64 1) := by have h := KT.out.cell 0; simp at h; exact h
    have td1 : W.drew.cell? ⟨T, 1, none⟩ = some (.int .i64 s) := by have h := KT.out.cell 1; simp at h; exact h
    have td2 : W.drew.cell? ⟨T, 2, none⟩ = some (.int .i64 n) := by have h := KT.out.cell 2; simp at h; exact h
    have td3 : W.drew.cell? ⟨T, 3, none⟩ = some (.string key) := by have h := KT.out.cell 3; simp at h; exact h
    have td4 : W.drew.cell? ⟨T, 4, none⟩ = some (.slice A p.length c) := by have h := KT.out.cell 4; simp at h; exact h
    have td5 : W.drew.cell? ⟨T, 5, none⟩ = some (.bool d) := by have h := KT.out.cell 5; simp at h; exact h
    go_region_held3 (fun w' => w'.cell? ⟨T, 0, none⟩ = some (.int .i64 1) ∧ w'.cell? ⟨T, 1, none⟩ = some (.int .i64 s) ∧ w'.cell? ⟨T, 2, none⟩ = some (.int .i64 n) ∧ w'.cell? ⟨T, 3, none⟩ = some (.string key) ∧ w'.cell? ⟨T, 4, none⟩ = some (.slice A p.length c) ∧ w'.cell? ⟨T, 5, none⟩ = some (.bool d)) (first | (with_reducible exact ⟨td0, td1, td2, td3, td4, td5⟩) | (with_reducible exact ⟨x0, x1, x2, x3, x4, x5⟩) | go_keep) ((go_at_call 75; refine (rown_any (w := W.drew) HP.out hl).mono ?_; rintro e w2 h; obtain ⟨v2, rfl, ho, hb⟩ := h.out; obtain ⟨A2, c2, rfl, _, _⟩ := BOwns.slice ho; have HO := Lib.hid ho; have HB := Lib.hid (show Below W.heap.size W w2 from ⟨hb.os, hb.tape, hb.output, hb.size, hb.block⟩); have KT2 := Lib.hid (KT.out.below' HB.out); have KR2 := Lib.hid (KR'.out.below' HB.out); have x0 := KT2.out.cell 0; have x1 := KT2.out.cell 1; have x2 := KT2.out.cell 2; have x3 := KT2.out.cell 3; have x4 := KT2.out.cell 4; have x5 := KT2.out.cell 5; have r0 := KR2.out.cell 0; have f0 := KR2.out.frozen 0; have r1 := KR2.out.cell 1; have f1 := KR2.out.frozen 1; have r2 := KR2.out.cell 2; have f2 := KR2.out.frozen 2; have r3 := KR2.out.cell 3; have f3 := KR2.out.frozen 3; simp at x0 x1 x2 x3 x4 x5 r0 r1 r2 r3; clear h ho hb))
    have KR3 := Lib.hid (KR2.out.put4 (.string key) (.int .i64 0) (.slice A2 p.length c2) (.bool false))
    have OW := Lib.hid ((HO.out.farBlk KR2.out (by decide) (keeps_set4 w2 R (.string key) (.int .i64 0) (.slice A2 p.length c2) (.bool false))))
    have SZ := Lib.hid (show w.heap.size ≤ W.drew.heap.size from B0.out.size)
    have BW := Lib.hid (show Below w.heap.size w (set4 w2 R (.string key) (.int .i64 0) (.slice A2 p.length c2) (.bool false)) from (B0.out.trans (HB.out.mono B0.out.size)).trans ((keeps_set4 w2 R (.string key) (.int .i64 0) (.slice A2 p.length c2) (.bool false)).below (B0.out.trans (HB.out.mono B0.out.size)).size (fun i hi => by rw [hi]; exact HT.out)))
    clear x0 x1 x2 x3 x4 x5 r0 f0 r1 f1 r2 f2 r3 f3 td0 td1 td2 td3 td4 td5
    obtain ⟨w3, hw3⟩ : ∃ x, x = ((((w2.setCell ⟨R, 0, none⟩ (.string key)).setCell ⟨R, 1, none⟩ (.int .i64 0)).setCell ⟨R, 2, none⟩ (.slice A2 p.length c2)).setCell ⟨R, 3, none⟩ (.bool false)) := ⟨_, rfl⟩
    rw [show set4 w2 R (.string key) (.int .i64 0) (.slice A2 p.length c2) (.bool false) = w3 from hw3.symm] at KR3 OW BW
    rw [← hw3]
    clear hw3
    have q0 := KR3.out.cell 0
    have q1 := KR3.out.cell 1
    have q2 := KR3.out.cell 2
    have q3 := KR3.out.cell 3
    simp at q0 q1 q2 q3
    go_wp2
    exact bodyPost_ret (v := .tuple #[.agg #[.string key, .int .i64 0, .slice A2 p.length c2, .bool false], .bool true]) (by simp [results, Try.results97, go_sem, q0, q1, q2, q3]) rfl ⟨A2, c2, rfl, owns_less OW.out SZ.out, BW.out⟩
  by_cases h2 : k = 2
  · subst h2
    rw [show En.version ⟨2, s, n, key, p, d⟩ = (⟨key, 0, [], true⟩, true) from rfl]
    go_enter Try.func97, Try.ntmps97
    go_wp2
    exact bodyPost_ret (v := .tuple #[.agg #[.string key, .int .i64 0, .slice none 0 0, .bool true], .bool true]) (by simp [results, Try.results97, go_sem]) rfl ⟨none, 0, rfl, BOwns.nil _ _, ((Below.refl w.heap.size w).alloc (Nat.le_refl _) _).alloc (by simp) _⟩
  by_cases h5 : k = 5
  · subst h5
    rw [show En.version ⟨5, s, n, key, p, d⟩ = (⟨key, s, p, d⟩, true) from rfl]
    have KT := Lib.hid ((Blk.new w 31 #[.int .i64 5, .int .i64 s, .int .i64 n, .string key, .slice A p.length c, .bool d]).alloc (.cells #[.string ⟨#[]⟩, .int .i64 0, .slice none 0 0, .bool false] 33))
    have KR := Lib.hid (Blk.new (w.alloc (.cells #[.int .i64 5, .int .i64 s, .int .i64 n, .string key, .slice A p.length c, .bool d] 31)) 33 #[.string ⟨#[]⟩, .int .i64 0, .slice none 0 0, .bool false])
    have B0 := Lib.hid (((Below.refl w.heap.size w).alloc (Nat.le_refl _) (.cells #[.int .i64 5, .int .i64 s, .int .i64 n, .string key, .slice A p.length c, .bool d] 31)).alloc (by simp) (.cells #[.string ⟨#[]⟩, .int .i64 0, .slice none 0 0, .bool false] 33))
    go_enter Try.func97, Try.ntmps97
    go_wp2
    obtain ⟨W, hW⟩ : ∃ x, x = (w.alloc (.cells #[.int .i64 5, .int .i64 s, .int .i64 n, .string key, .slice A p.length c, .bool d] 31)).alloc (.cells #[.string ⟨#[]⟩, .int .i64 0, .slice none 0 0, .bool false] 33) := ⟨_, rfl⟩
    obtain ⟨T, hT⟩ : ∃ x, x = w.heap.size := ⟨_, rfl⟩
    obtain ⟨R, hR⟩ : ∃ x, x = w.heap.size + 1 := ⟨_, rfl⟩
    have HT := Lib.hid (show w.heap.size ≤ R from by omega)
    have hTR : ¬ T = R := by omega
    have hRT : ¬ R = T := by omega
    have KR' := Lib.hid (show Blk W R 33 #[.string ⟨#[]⟩, .int .i64 0, .slice none 0 0, .bool false] from by have := KR.out; rw [hW, hR]; simpa using this)
    rw [← hW, ← hT] at KT
    rw [← hW] at B0
    rw [← hW, ← hR, ← hT]
    clear hW hT hR KR
    have HP := Lib.hid ((H0.out.below B0.out).more B0.out.size)
    have td0 : W.drew.cell? ⟨T, 0, none⟩ = some (.int .i64 5) := by have h := KT.out.cell 0; simp at h; exact h
    have td1 : W.drew.cell? ⟨T, 1, none⟩ = some (.int .i64 s) := by have h := KT.out.cell 1; simp at h; exact h
    have td2 : W.drew.cell? ⟨T, 2, none⟩ = some (.int .i64 n) := by have h := KT.out.cell 2; simp at h; exact h
    have td3 : W.drew.cell? ⟨T, 3, none⟩ = some (.string key) := by have h := KT.out.cell 3; simp at h; exact h
    have td4 : W.drew.cell? ⟨T, 4, none⟩ = some (.slice A p.length c) := by have h := KT.out.cell 4; simp at h; exact h
    have td5 : W.drew.cell? ⟨T, 5, none⟩ = some (.bool d) := by have h := KT.out.cell 5; simp at h; exact h
    go_region_held3 (fun w' => w'.cell? ⟨T, 0, none⟩ = some (.int .i64 5) ∧ w'.cell? ⟨T, 1, none⟩ = some (.int .i64 s) ∧ w'.cell? ⟨T, 2, none⟩ = some (.int .i64 n) ∧ w'.cell? ⟨T, 3, none⟩ = some (.string key) ∧ w'.cell? ⟨T, 4, none⟩ = some (.slice A p.length c) ∧ w'.cell? ⟨T, 5, none⟩ = some (.bool d)) (first | (with_reducible exact ⟨td0, td1, td2, td3, td4, td5⟩) | (with_reducible exact ⟨x0, x1, x2, x3, x4, x5⟩) | go_keep) ((go_at_call 75; refine (rown_any (w := W.drew) HP.out hl).mono ?_; rintro e w2 h; obtain ⟨v2, rfl, ho, hb⟩ := h.out; obtain ⟨A2, c2, rfl, _, _⟩ := BOwns.slice ho; have HO := Lib.hid ho; have HB := Lib.hid (show Below W.heap.size W w2 from ⟨hb.os, hb.tape, hb.output, hb.size, hb.block⟩); have KT2 := Lib.hid (KT.out.below' HB.out); have KR2 := Lib.hid (KR'.out.below' HB.out); have x0 := KT2.out.cell 0; have x1 := KT2.out.cell 1; have x2 := KT2.out.cell 2; have x3 := KT2.out.cell 3; have x4 := KT2.out.cell 4; have x5 := KT2.out.cell 5; have r0 := KR2.out.cell 0; have f0 := KR2.out.frozen 0; have r1 := KR2.out.cell 1; have f1 := KR2.out.frozen 1; have r2 := KR2.out.cell 2; have f2 := KR2.out.frozen 2; have r3 := KR2.out.cell 3; have f3 := KR2.out.frozen 3; simp at x0 x1 x2 x3 x4 x5 r0 r1 r2 r3; clear h ho hb))
    have KR3 := Lib.hid (KR2.out.put4 (.string key) (.int .i64 s) (.slice A2 p.length c2) (.bool d))
    have OW := Lib.hid ((HO.out.farBlk KR2.out (by decide) (keeps_set4 w2 R (.string key) (.int .i64 s) (.slice A2 p.length c2) (.bool d))))
    have SZ := Lib.hid (show w.heap.size ≤ W.drew.heap.size from B0.out.size)
    have BW := Lib.hid (show Below w.heap.size w (set4 w2 R (.string key) (.int .i64 s) (.slice A2 p.length c2) (.bool d)) from (B0.out.trans (HB.out.mono B0.out.size)).trans ((keeps_set4 w2 R (.string key) (.int .i64 s) (.slice A2 p.length c2) (.bool d)).below (B0.out.trans (HB.out.mono B0.out.size)).size (fun i hi => by rw [hi]; exact HT.out)))
    clear x0 x1 x2 x3 x4 x5 r0 f0 r1 f1 r2 f2 r3 f3 td0 td1 td2 td3 td4 td5
    obtain ⟨w3, hw3⟩ : ∃ x, x = ((((w2.setCell ⟨R, 0, none⟩ (.string key)).setCell ⟨R, 1, none⟩ (.int .i64 s)).setCell ⟨R, 2, none⟩ (.slice A2 p.length c2)).setCell ⟨R, 3, none⟩ (.bool d)) := ⟨_, rfl⟩
    rw [show set4 w2 R (.string key) (.int .i64 s) (.slice A2 p.length c2) (.bool d) = w3 from hw3.symm] at KR3 OW BW
    rw [← hw3]
    clear hw3
    have q0 := KR3.out.cell 0
    have q1 := KR3.out.cell 1
    have q2 := KR3.out.cell 2
    have q3 := KR3.out.cell 3
    simp at q0 q1 q2 q3
    go_wp2
    exact bodyPost_ret (v := .tuple #[.agg #[.string key, .int .i64 s, .slice A2 p.length c2, .bool d], .bool true]) (by simp [results, Try.results97, go_sem, q0, q1, q2, q3]) rfl ⟨A2, c2, rfl, owns_less OW.out SZ.out, BW.out⟩
  rw [show En.version ⟨k, s, n, key, p, d⟩ = (⟨⟨#[]⟩, 0, [], false⟩, false) from by unfold En.version; rw [if_neg h1, if_neg h2, if_neg h5]]
  have k1 : (k == 1) = false := by rw [beq_eq_false_iff_ne]; exact h1
  have k2 : (k == 2) = false := by rw [beq_eq_false_iff_ne]; exact h2
  have k5 : (k == 5) = false := by rw [beq_eq_false_iff_ne]; exact h5
  clear h1 h2 h5
  go_enter Try.func97, Try.ntmps97
  go_wp2
  exact bodyPost_ret (v := .tuple #[.agg #[.string ⟨#[]⟩, .int .i64 0, .slice none 0 0, .bool false], .bool false]) (by simp [results, Try.results97, go_sem]) rfl ⟨none, 0, rfl, BOwns.nil _ _, ((Below.refl w.heap.size w).alloc (Nat.le_refl _) _).alloc (by simp) _⟩
end Go.Proofs.Ytoecgkdipgaaeaa
