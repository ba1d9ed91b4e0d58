/- Contracts and plain laws that this claim leans on, laid together: Ent6, EntK, Wal2, Rdl, PlainE, PlainW, WalP, Tls, Inv, InvIn, RowT. -/
import Derived.Test.YtmnpchncmbnddaaGreatG07
import Derived.Deep.RegionHeld3
import Derived.Test.YtmnpchncmbnddaaGreatG01
import Derived.Test.YtmnpchncmbnddaaGreatG05
import Derived.Test.YtmnpchncmbnddaaGreatG02
import Derived.Test.YtmnpchncmbnddaaGreatG04
import Derived.Test.YtmnpchncmbnddaaGreatG03
import Derived.OrdersIn
set_option linter.all false
set_option linter.unusedVariables false
set_option linter.unusedSimpArgs false
set_option linter.unnecessarySimpa false
/- Versions: how they lie in memory; OfWrite, OfVersion, Version of package entry and of the reference: by contract. -/
namespace Go.Proofs.YtmnpchncmbnddaaGreat
open Go.RowKit

/-- A version. -/
structure Vn where
  key : ByteArray
  stamp : Int
  value : List UInt8
  dead : Bool
def Vn.cells (e : Vn) (A : Option Addr) (c : Nat) : Array Value := #[.string e.key, .int .i64 e.stamp, .slice A e.value.length c, .bool e.dead]
def Vn.ofVersion (v : Vn) : En := ⟨5, v.stamp, 0, v.key, v.value, v.dead⟩
def En.version (e : En) : Vn × Bool :=
  if e.kind = 1 then (⟨e.key, 0, e.value, false⟩, true) else if e.kind = 2 then (⟨e.key, 0, [], true⟩, true) else if e.kind = 5 then (⟨e.key, e.stamp, e.value, e.dead⟩, true) else (⟨⟨#[]⟩, 0, [], false⟩, false)
/-- The call answers an entry whose value is new memory. -/
def GivesE (w : World) (x : En) (e : Ending) (w' : World) : Prop := ∃ A c, e = .returned (.agg (x.cells A c)) ∧ BOwns w' w.heap.size (.slice A x.value.length c) x.value ∧ Below w.heap.size w w'
/-- The call answers a version whose value is new memory, and a bool. -/
def GivesV (w : World) (x : Vn × Bool) (e : Ending) (w' : World) : Prop := ∃ A c, e = .returned (.tuple #[.agg (x.1.cells A c), .bool x.2]) ∧ BOwns w' w.heap.size (.slice A x.1.value.length c) x.1.value ∧ Below w.heap.size w w'
/-- Four cells of a block, written. -/
def set4 (w : World) (g : Nat) (u0 u1 u2 u3 : Value) : World := ((((w.setCell ⟨g, 0, none⟩ u0).setCell ⟨g, 1, none⟩ u1).setCell ⟨g, 2, none⟩ u2).setCell ⟨g, 3, none⟩ u3)
theorem Blk.put4 {w : World} {g : Nat} {t : TypeId} {a0 a1 a2 a3 : Value} (h : Blk w g t #[a0, a1, a2, a3]) (u0 u1 u2 u3 : Value) : Blk (set4 w g u0 u1 u2 u3) g t #[u0, u1, u2, u3] := by
  have := ((((h.set_ 0 u0).set_ 1 u1).set_ 2 u2).set_ 3 u3)
  unfold set4
  simpa using this
theorem keeps_set4 (w : World) (g : Nat) (u0 u1 u2 u3 : Value) : Keeps (fun k => k = g) w (set4 w g u0 u1 u2 u3) :=
  ((((Keeps.refl (fun k => k = g) w).setCell (p := ⟨g, 0, none⟩) (.inl rfl) u0).setCell (p := ⟨g, 1, none⟩) (.inl rfl) u1).setCell (p := ⟨g, 2, none⟩) (.inl rfl) u2).setCell (p := ⟨g, 3, none⟩) (.inl rfl) u3
/-- Six cells of a block, written. -/
def set6 (w : World) (g : Nat) (u0 u1 u2 u3 u4 u5 : Value) : World := ((((((w.setCell ⟨g, 0, none⟩ u0).setCell ⟨g, 1, none⟩ u1).setCell ⟨g, 2, none⟩ u2).setCell ⟨g, 3, none⟩ u3).setCell ⟨g, 4, none⟩ u4).setCell ⟨g, 5, none⟩ u5)
theorem Blk.put6 {w : World} {g : Nat} {t : TypeId} {a0 a1 a2 a3 a4 a5 : Value} (h : Blk w g t #[a0, a1, a2, a3, a4, a5]) (u0 u1 u2 u3 u4 u5 : Value) : Blk (set6 w g u0 u1 u2 u3 u4 u5) g t #[u0, u1, u2, u3, u4, u5] := by
  have := ((((((h.set_ 0 u0).set_ 1 u1).set_ 2 u2).set_ 3 u3).set_ 4 u4).set_ 5 u5)
  unfold set6
  simpa using this
theorem keeps_set6 (w : World) (g : Nat) (u0 u1 u2 u3 u4 u5 : Value) : Keeps (fun k => k = g) w (set6 w g u0 u1 u2 u3 u4 u5) :=
  ((((((Keeps.refl (fun k => k = g) w).setCell (p := ⟨g, 0, none⟩) (.inl rfl) u0).setCell (p := ⟨g, 1, none⟩) (.inl rfl) u1).setCell (p := ⟨g, 2, none⟩) (.inl rfl) u2).setCell (p := ⟨g, 3, none⟩) (.inl rfl) u3).setCell (p := ⟨g, 4, none⟩) (.inl rfl) u4).setCell (p := ⟨g, 5, none⟩) (.inl rfl) u5
/-- A row while a block of another type is written. -/
theorem BOwns.farBlk {w w' : World} {base g : Nat} {v : Value} {l : List UInt8} {t : TypeId} {cs : Array Value} (h : BOwns w base v l) (hb : Blk w g t cs) (ht : 5 ≠ t) (hk : Keeps (fun k => k = g) w w') : BOwns w' base v l :=
  h.keepsB hk (fun k e e' => by
    subst e'
    rcases h.2 with ⟨h2, _⟩ | ⟨g', cap, cur, hv, _, hh, _⟩
    · rw [h2] at e; cases e
    · rw [hv] at e
      have e' : g' = k := Option.some.inj e
      subst e'
      unfold Blk at hb
      rw [hb] at hh
      injection hh with hh
      injection hh with _ hh
      exact ht hh.symm)
set_option maxRecDepth 100000 in
set_option maxHeartbeats 1000000 in
theorem ofVersion_any {w : World} {A : Option Addr} {c : Nat} (v : Vn) (hr : BReads w w.heap.size A v.value) (hl : v.value.length ≤ 140737488355328) :
    Calls Tryz.prog 109 #[.agg (v.cells A c)] w (GivesE w v.ofVersion) := by
  obtain ⟨key, s, p, d⟩ := v
  unfold Vn.cells
  simp only at hr hl ⊢
  have H0 := Lib.hid hr
  clear hr
  have KT := Lib.hid ((Blk.new w 51 #[.string key, .int .i64 s, .slice A p.length c, .bool d]).alloc (.cells #[.int .i64 0, .int .i64 0, .int .i64 0, .string ⟨#[]⟩, .slice none 0 0, .bool false] 105))
  have KR := Lib.hid (Blk.new (w.alloc (.cells #[.string key, .int .i64 s, .slice A p.length c, .bool d] 51)) 105 #[.int .i64 0, .int .i64 0, .int .i64 0, .string ⟨#[]⟩, .slice none 0 0, .bool false])
  have B0 := Lib.hid (((Below.refl w.heap.size w).alloc (Nat.le_refl _) (.cells #[.string key, .int .i64 s, .slice A p.length c, .bool d] 51)).alloc (by simp) (.cells #[.int .i64 0, .int .i64 0, .int .i64 0, .string ⟨#[]⟩, .slice none 0 0, .bool false] 105))
  go_enter Tryz.func109, Tryz.ntmps109
  go_wp2
  obtain ⟨W, hW⟩ : ∃ x, x = (w.alloc (.cells #[.string key, .int .i64 s, .slice A p.length c, .bool d] 51)).alloc (.cells #[.int .i64 0, .int .i64 0, .int .i64 0, .string ⟨#[]⟩, .slice none 0 0, .bool false] 105) := ⟨_, rfl⟩
  obtain ⟨T, hT⟩ : ∃ x, x = w.heap.size := ⟨_, rfl⟩
  obtain ⟨R, hR⟩ : ∃ x, x = w.heap.size + 1 := ⟨_, rfl⟩
  have HT := Lib.hid (show w.heap.size ≤ R from by omega)
  have hTR : ¬ T = R := by omega
  have hRT : ¬ R = T := by omega
  have KR' := Lib.hid (show Blk W R 105 #[.int .i64 0, .int .i64 0, .int .i64 0, .string ⟨#[]⟩, .slice none 0 0, .bool false] from by have := KR.out; rw [hW, hR]; simpa using this)
  rw [← hW, ← hT] at KT
  rw [← hW] at B0
  rw [← hW, ← hR, ← hT]
  clear hW hT hR KR
  have HP := Lib.hid ((H0.out.below B0.out).more B0.out.size)
  have td0 : W.drew.cell? ⟨T, 0, none⟩ = some (.string key) := by have h := KT.out.cell 0; simp at h; exact h
  have td1 : W.drew.cell? ⟨T, 1, none⟩ = some (.int .i64 s) := by have h := KT.out.cell 1; simp at h; exact h
  have td2 : W.drew.cell? ⟨T, 2, none⟩ = some (.slice A p.length c) := by have h := KT.out.cell 2; simp at h; exact h
  have td3 : W.drew.cell? ⟨T, 3, none⟩ = some (.bool d) := by have h := KT.out.cell 3; simp at h; exact h
  go_region_held3 (fun w' => w'.cell? ⟨T, 0, none⟩ = some (.string key) ∧ w'.cell? ⟨T, 1, none⟩ = some (.int .i64 s) ∧ w'.cell? ⟨T, 2, none⟩ = some (.slice A p.length c) ∧ w'.cell? ⟨T, 3, none⟩ = some (.bool d)) (first | (with_reducible exact ⟨td0, td1, td2, td3⟩) | (with_reducible exact ⟨x0, x1, x2, x3⟩) | go_keep) ((go_at_call 166; refine (eown_any (w := W.drew) HP.out hl).mono ?_; rintro e w2 h; obtain ⟨v2, rfl, ho, hb⟩ := h.out; obtain ⟨A2, c2, rfl, _, _⟩ := BOwns.slice ho; have HO := Lib.hid ho; have HB := Lib.hid (show Below W.heap.size W w2 from ⟨hb.os, hb.tape, hb.output, hb.size, hb.block⟩); have KT2 := Lib.hid (KT.out.below' HB.out); have KR2 := Lib.hid (KR'.out.below' HB.out); have x0 := KT2.out.cell 0; have x1 := KT2.out.cell 1; have x2 := KT2.out.cell 2; have x3 := KT2.out.cell 3; have r0 := KR2.out.cell 0; have f0 := KR2.out.frozen 0; have r1 := KR2.out.cell 1; have f1 := KR2.out.frozen 1; have r2 := KR2.out.cell 2; have f2 := KR2.out.frozen 2; have r3 := KR2.out.cell 3; have f3 := KR2.out.frozen 3; have r4 := KR2.out.cell 4; have f4 := KR2.out.frozen 4; have r5 := KR2.out.cell 5; have f5 := KR2.out.frozen 5; simp at x0 x1 x2 x3 r0 r1 r2 r3 r4 r5; clear h ho hb))
  have KR3 := Lib.hid (KR2.out.put6 (.int .i64 5) (.int .i64 s) (.int .i64 0) (.string key) (.slice A2 p.length c2) (.bool d))
  have OW := Lib.hid ((HO.out.farBlk KR2.out (by decide) (keeps_set6 w2 R (.int .i64 5) (.int .i64 s) (.int .i64 0) (.string key) (.slice A2 p.length c2) (.bool d))))
  have SZ := Lib.hid (show w.heap.size ≤ W.drew.heap.size from B0.out.size)
  have BW := Lib.hid (show Below w.heap.size w (set6 w2 R (.int .i64 5) (.int .i64 s) (.int .i64 0) (.string key) (.slice A2 p.length c2) (.bool d)) from (B0.out.trans (HB.out.mono B0.out.size)).trans ((keeps_set6 w2 R (.int .i64 5) (.int .i64 s) (.int .i64 0) (.string key) (.slice A2 p.length c2) (.bool d)).below (B0.out.trans (HB.out.mono B0.out.size)).size (fun i hi => by rw [hi]; exact HT.out)))
  clear x0 x1 x2 x3 r0 f0 r1 f1 r2 f2 r3 f3 r4 f4 r5 f5 td0 td1 td2 td3
  obtain ⟨w3, hw3⟩ : ∃ x, x = ((((((w2.setCell ⟨R, 0, none⟩ (.int .i64 5)).setCell ⟨R, 1, none⟩ (.int .i64 s)).setCell ⟨R, 2, none⟩ (.int .i64 0)).setCell ⟨R, 3, none⟩ (.string key)).setCell ⟨R, 4, none⟩ (.slice A2 p.length c2)).setCell ⟨R, 5, none⟩ (.bool d)) := ⟨_, rfl⟩
  rw [show set6 w2 R (.int .i64 5) (.int .i64 s) (.int .i64 0) (.string key) (.slice A2 p.length c2) (.bool d) = w3 from hw3.symm] at KR3 OW BW
  rw [← hw3]
  clear hw3
  have q0 := KR3.out.cell 0
  have q1 := KR3.out.cell 1
  have q2 := KR3.out.cell 2
  have q3 := KR3.out.cell 3
  have q4 := KR3.out.cell 4
  have q5 := KR3.out.cell 5
  simp at q0 q1 q2 q3 q4 q5
  go_wp2
  exact bodyPost_ret (v := .agg #[.int .i64 5, .int .i64 s, .int .i64 0, .string key, .slice A2 p.length c2, .bool d]) (by simp [results, Tryz.results109, go_sem, q0, q1, q2, q3, q4, q5]) rfl ⟨A2, c2, rfl, owns_less OW.out SZ.out, BW.out⟩
set_option maxRecDepth 100000 in
set_option maxHeartbeats 1000000 in
theorem version_any {w : World} {A : Option Addr} {c : Nat} (x : En) (hr : BReads w w.heap.size A x.value) (hl : x.value.length ≤ 140737488355328) :
    Calls Tryz.prog 161 #[.agg (x.cells A c)] w (GivesV w x.version) := by
  obtain ⟨k, s, n, key, p, d⟩ := x
  unfold En.cells
  simp only at hr hl ⊢
  have H0 := Lib.hid hr
  clear hr
  by_cases h1 : k = 1
  · subst h1
    rw [show En.version ⟨1, s, n, key, p, d⟩ = (⟨key, 0, p, false⟩, true) from rfl]
    have KT := Lib.hid ((Blk.new w 105 #[.int .i64 1, .int .i64 s, .int .i64 n, .string key, .slice A p.length c, .bool d]).alloc (.cells #[.string ⟨#[]⟩, .int .i64 0, .slice none 0 0, .bool false] 51))
    have KR := Lib.hid (Blk.new (w.alloc (.cells #[.int .i64 1, .int .i64 s, .int .i64 n, .string key, .slice A p.length c, .bool d] 105)) 51 #[.string ⟨#[]⟩, .int .i64 0, .slice none 0 0, .bool false])
    have B0 := Lib.hid (((Below.refl w.heap.size w).alloc (Nat.le_refl _) (.cells #[.int .i64 1, .int .i64 s, .int .i64 n, .string key, .slice A p.length c, .bool d] 105)).alloc (by simp) (.cells #[.string ⟨#[]⟩, .int .i64 0, .slice none 0 0, .bool false] 51))
    go_enter Tryz.func161, Tryz.ntmps161
    go_wp2
    obtain ⟨W, hW⟩ : ∃ x, x = (w.alloc (.cells #[.int .i64 1, .int .i64 s, .int .i64 n, .string key, .slice A p.length c, .bool d] 105)).alloc (.cells #[.string ⟨#[]⟩, .int .i64 0, .slice none 0 0, .bool false] 51) := ⟨_, rfl⟩
    obtain ⟨T, hT⟩ : ∃ x, x = w.heap.size := ⟨_, rfl⟩
    obtain ⟨R, hR⟩ : ∃ x, x = w.heap.size + 1 := ⟨_, rfl⟩
    have HT := Lib.hid (show w.heap.size ≤ R from by omega)
    have hTR : ¬ T = R := by omega
    have hRT : ¬ R = T := by omega
    have KR' := Lib.hid (show Blk W R 51 #[.string ⟨#[]⟩, .int .i64 0, .slice none 0 0, .bool false] from by have := KR.out; rw [hW, hR]; simpa using this)
    rw [← hW, ← hT] at KT
    rw [← hW] at B0
    rw [← hW, ← hR, ← hT]
    clear hW hT hR KR
    have HP := Lib.hid ((H0.out.below B0.out).more B0.out.size)
    have td0 : W.drew.cell? ⟨T, 0, none⟩ = some (.int .i64 1) := by have h := KT.out.cell 0; simp at h; exact h
    have td1 : W.drew.cell? ⟨T, 1, none⟩ = some (.int .i64 s) := by have h := KT.out.cell 1; simp at h; exact h
    have td2 : W.drew.cell? ⟨T, 2, none⟩ = some (.int .i64 n) := by have h := KT.out.cell 2; simp at h; exact h
    have td3 : W.drew.cell? ⟨T, 3, none⟩ = some (.string key) := by have h := KT.out.cell 3; simp at h; exact h
    have td4 : W.drew.cell? ⟨T, 4, none⟩ = some (.slice A p.length c) := by have h := KT.out.cell 4; simp at h; exact h
    have td5 : W.drew.cell? ⟨T, 5, none⟩ = some (.bool d) := by have h := KT.out.cell 5; simp at h; exact h
    go_region_held3 (fun w' => w'.cell? ⟨T, 0, none⟩ = some (.int .i64 1) ∧ w'.cell? ⟨T, 1, none⟩ = some (.int .i64 s) ∧ w'.cell? ⟨T, 2, none⟩ = some (.int .i64 n) ∧ w'.cell? ⟨T, 3, none⟩ = some (.string key) ∧ w'.cell? ⟨T, 4, none⟩ = some (.slice A p.length c) ∧ w'.cell? ⟨T, 5, none⟩ = some (.bool d)) (first | (with_reducible exact ⟨td0, td1, td2, td3, td4, td5⟩) | (with_reducible exact ⟨x0, x1, x2, x3, x4, x5⟩) | go_keep) ((go_at_call 166; refine (eown_any (w := W.drew) HP.out hl).mono ?_; rintro e w2 h; obtain ⟨v2, rfl, ho, hb⟩ := h.out; obtain ⟨A2, c2, rfl, _, _⟩ := BOwns.slice ho; have HO := Lib.hid ho; have HB := Lib.hid (show Below W.heap.size W w2 from ⟨hb.os, hb.tape, hb.output, hb.size, hb.block⟩); have KT2 := Lib.hid (KT.out.below' HB.out); have KR2 := Lib.hid (KR'.out.below' HB.out); have x0 := KT2.out.cell 0; have x1 := KT2.out.cell 1; have x2 := KT2.out.cell 2; have x3 := KT2.out.cell 3; have x4 := KT2.out.cell 4; have x5 := KT2.out.cell 5; have r0 := KR2.out.cell 0; have f0 := KR2.out.frozen 0; have r1 := KR2.out.cell 1; have f1 := KR2.out.frozen 1; have r2 := KR2.out.cell 2; have f2 := KR2.out.frozen 2; have r3 := KR2.out.cell 3; have f3 := KR2.out.frozen 3; simp at x0 x1 x2 x3 x4 x5 r0 r1 r2 r3; clear h ho hb))
    have KR3 := Lib.hid (KR2.out.put4 (.string key) (.int .i64 0) (.slice A2 p.length c2) (.bool false))
    have OW := Lib.hid ((HO.out.farBlk KR2.out (by decide) (keeps_set4 w2 R (.string key) (.int .i64 0) (.slice A2 p.length c2) (.bool false))))
    have SZ := Lib.hid (show w.heap.size ≤ W.drew.heap.size from B0.out.size)
    have BW := Lib.hid (show Below w.heap.size w (set4 w2 R (.string key) (.int .i64 0) (.slice A2 p.length c2) (.bool false)) from (B0.out.trans (HB.out.mono B0.out.size)).trans ((keeps_set4 w2 R (.string key) (.int .i64 0) (.slice A2 p.length c2) (.bool false)).below (B0.out.trans (HB.out.mono B0.out.size)).size (fun i hi => by rw [hi]; exact HT.out)))
    clear x0 x1 x2 x3 x4 x5 r0 f0 r1 f1 r2 f2 r3 f3 td0 td1 td2 td3 td4 td5
    obtain ⟨w3, hw3⟩ : ∃ x, x = ((((w2.setCell ⟨R, 0, none⟩ (.string key)).setCell ⟨R, 1, none⟩ (.int .i64 0)).setCell ⟨R, 2, none⟩ (.slice A2 p.length c2)).setCell ⟨R, 3, none⟩ (.bool false)) := ⟨_, rfl⟩
    rw [show set4 w2 R (.string key) (.int .i64 0) (.slice A2 p.length c2) (.bool false) = w3 from hw3.symm] at KR3 OW BW
    rw [← hw3]
    clear hw3
    have q0 := KR3.out.cell 0
    have q1 := KR3.out.cell 1
    have q2 := KR3.out.cell 2
    have q3 := KR3.out.cell 3
    simp at q0 q1 q2 q3
    go_wp2
    exact bodyPost_ret (v := .tuple #[.agg #[.string key, .int .i64 0, .slice A2 p.length c2, .bool false], .bool true]) (by simp [results, Tryz.results161, go_sem, q0, q1, q2, q3]) rfl ⟨A2, c2, rfl, owns_less OW.out SZ.out, BW.out⟩
  by_cases h2 : k = 2
  · subst h2
    rw [show En.version ⟨2, s, n, key, p, d⟩ = (⟨key, 0, [], true⟩, true) from rfl]
    go_enter Tryz.func161, Tryz.ntmps161
    go_wp2
    exact bodyPost_ret (v := .tuple #[.agg #[.string key, .int .i64 0, .slice none 0 0, .bool true], .bool true]) (by simp [results, Tryz.results161, go_sem]) rfl ⟨none, 0, rfl, BOwns.nil _ _, ((Below.refl w.heap.size w).alloc (Nat.le_refl _) _).alloc (by simp) _⟩
  by_cases h5 : k = 5
  · subst h5
    rw [show En.version ⟨5, s, n, key, p, d⟩ = (⟨key, s, p, d⟩, true) from rfl]
    have KT := Lib.hid ((Blk.new w 105 #[.int .i64 5, .int .i64 s, .int .i64 n, .string key, .slice A p.length c, .bool d]).alloc (.cells #[.string ⟨#[]⟩, .int .i64 0, .slice none 0 0, .bool false] 51))
    have KR := Lib.hid (Blk.new (w.alloc (.cells #[.int .i64 5, .int .i64 s, .int .i64 n, .string key, .slice A p.length c, .bool d] 105)) 51 #[.string ⟨#[]⟩, .int .i64 0, .slice none 0 0, .bool false])
    have B0 := Lib.hid (((Below.refl w.heap.size w).alloc (Nat.le_refl _) (.cells #[.int .i64 5, .int .i64 s, .int .i64 n, .string key, .slice A p.length c, .bool d] 105)).alloc (by simp) (.cells #[.string ⟨#[]⟩, .int .i64 0, .slice none 0 0, .bool false] 51))
    go_enter Tryz.func161, Tryz.ntmps161
    go_wp2
    obtain ⟨W, hW⟩ : ∃ x, x = (w.alloc (.cells #[.int .i64 5, .int .i64 s, .int .i64 n, .string key, .slice A p.length c, .bool d] 105)).alloc (.cells #[.string ⟨#[]⟩, .int .i64 0, .slice none 0 0, .bool false] 51) := ⟨_, rfl⟩
    obtain ⟨T, hT⟩ : ∃ x, x = w.heap.size := ⟨_, rfl⟩
    obtain ⟨R, hR⟩ : ∃ x, x = w.heap.size + 1 := ⟨_, rfl⟩
    have HT := Lib.hid (show w.heap.size ≤ R from by omega)
    have hTR : ¬ T = R := by omega
    have hRT : ¬ R = T := by omega
    have KR' := Lib.hid (show Blk W R 51 #[.string ⟨#[]⟩, .int .i64 0, .slice none 0 0, .bool false] from by have := KR.out; rw [hW, hR]; simpa using this)
    rw [← hW, ← hT] at KT
    rw [← hW] at B0
    rw [← hW, ← hR, ← hT]
    clear hW hT hR KR
    have HP := Lib.hid ((H0.out.below B0.out).more B0.out.size)
    have td0 : W.drew.cell? ⟨T, 0, none⟩ = some (.int .i64 5) := by have h := KT.out.cell 0; simp at h; exact h
    have td1 : W.drew.cell? ⟨T, 1, none⟩ = some (.int .i64 s) := by have h := KT.out.cell 1; simp at h; exact h
    have td2 : W.drew.cell? ⟨T, 2, none⟩ = some (.int .i64 n) := by have h := KT.out.cell 2; simp at h; exact h
    have td3 : W.drew.cell? ⟨T, 3, none⟩ = some (.string key) := by have h := KT.out.cell 3; simp at h; exact h
    have td4 : W.drew.cell? ⟨T, 4, none⟩ = some (.slice A p.length c) := by have h := KT.out.cell 4; simp at h; exact h
    have td5 : W.drew.cell? ⟨T, 5, none⟩ = some (.bool d) := by have h := KT.out.cell 5; simp at h; exact h
    go_region_held3 (fun w' => w'.cell? ⟨T, 0, none⟩ = some (.int .i64 5) ∧ w'.cell? ⟨T, 1, none⟩ = some (.int .i64 s) ∧ w'.cell? ⟨T, 2, none⟩ = some (.int .i64 n) ∧ w'.cell? ⟨T, 3, none⟩ = some (.string key) ∧ w'.cell? ⟨T, 4, none⟩ = some (.slice A p.length c) ∧ w'.cell? ⟨T, 5, none⟩ = some (.bool d)) (first | (with_reducible exact ⟨td0, td1, td2, td3, td4, td5⟩) | (with_reducible exact ⟨x0, x1, x2, x3, x4, x5⟩) | go_keep) ((go_at_call 166; refine (eown_any (w := W.drew) HP.out hl).mono ?_; rintro e w2 h; obtain ⟨v2, rfl, ho, hb⟩ := h.out; obtain ⟨A2, c2, rfl, _, _⟩ := BOwns.slice ho; have HO := Lib.hid ho; have HB := Lib.hid (show Below W.heap.size W w2 from ⟨hb.os, hb.tape, hb.output, hb.size, hb.block⟩); have KT2 := Lib.hid (KT.out.below' HB.out); have KR2 := Lib.hid (KR'.out.below' HB.out); have x0 := KT2.out.cell 0; have x1 := KT2.out.cell 1; have x2 := KT2.out.cell 2; have x3 := KT2.out.cell 3; have x4 := KT2.out.cell 4; have x5 := KT2.out.cell 5; have r0 := KR2.out.cell 0; have f0 := KR2.out.frozen 0; have r1 := KR2.out.cell 1; have f1 := KR2.out.frozen 1; have r2 := KR2.out.cell 2; have f2 := KR2.out.frozen 2; have r3 := KR2.out.cell 3; have f3 := KR2.out.frozen 3; simp at x0 x1 x2 x3 x4 x5 r0 r1 r2 r3; clear h ho hb))
    have KR3 := Lib.hid (KR2.out.put4 (.string key) (.int .i64 s) (.slice A2 p.length c2) (.bool d))
    have OW := Lib.hid ((HO.out.farBlk KR2.out (by decide) (keeps_set4 w2 R (.string key) (.int .i64 s) (.slice A2 p.length c2) (.bool d))))
    have SZ := Lib.hid (show w.heap.size ≤ W.drew.heap.size from B0.out.size)
    have BW := Lib.hid (show Below w.heap.size w (set4 w2 R (.string key) (.int .i64 s) (.slice A2 p.length c2) (.bool d)) from (B0.out.trans (HB.out.mono B0.out.size)).trans ((keeps_set4 w2 R (.string key) (.int .i64 s) (.slice A2 p.length c2) (.bool d)).below (B0.out.trans (HB.out.mono B0.out.size)).size (fun i hi => by rw [hi]; exact HT.out)))
    clear x0 x1 x2 x3 x4 x5 r0 f0 r1 f1 r2 f2 r3 f3 td0 td1 td2 td3 td4 td5
    obtain ⟨w3, hw3⟩ : ∃ x, x = ((((w2.setCell ⟨R, 0, none⟩ (.string key)).setCell ⟨R, 1, none⟩ (.int .i64 s)).setCell ⟨R, 2, none⟩ (.slice A2 p.length c2)).setCell ⟨R, 3, none⟩ (.bool d)) := ⟨_, rfl⟩
    rw [show set4 w2 R (.string key) (.int .i64 s) (.slice A2 p.length c2) (.bool d) = w3 from hw3.symm] at KR3 OW BW
    rw [← hw3]
    clear hw3
    have q0 := KR3.out.cell 0
    have q1 := KR3.out.cell 1
    have q2 := KR3.out.cell 2
    have q3 := KR3.out.cell 3
    simp at q0 q1 q2 q3
    go_wp2
    exact bodyPost_ret (v := .tuple #[.agg #[.string key, .int .i64 s, .slice A2 p.length c2, .bool d], .bool true]) (by simp [results, Tryz.results161, go_sem, q0, q1, q2, q3]) rfl ⟨A2, c2, rfl, owns_less OW.out SZ.out, BW.out⟩
  rw [show En.version ⟨k, s, n, key, p, d⟩ = (⟨⟨#[]⟩, 0, [], false⟩, false) from by unfold En.version; rw [if_neg h1, if_neg h2, if_neg h5]]
  have k1 : (k == 1) = false := by rw [beq_eq_false_iff_ne]; exact h1
  have k2 : (k == 2) = false := by rw [beq_eq_false_iff_ne]; exact h2
  have k5 : (k == 5) = false := by rw [beq_eq_false_iff_ne]; exact h5
  clear h1 h2 h5
  go_enter Tryz.func161, Tryz.ntmps161
  go_wp2
  exact bodyPost_ret (v := .tuple #[.agg #[.string ⟨#[]⟩, .int .i64 0, .slice none 0 0, .bool false], .bool false]) (by simp [results, Tryz.results161, go_sem]) rfl ⟨none, 0, rfl, BOwns.nil _ _, ((Below.refl w.heap.size w).alloc (Nat.le_refl _) _).alloc (by simp) _⟩
end Go.Proofs.YtmnpchncmbnddaaGreat
/- Entries and versions as arguments: how they lie in memory. -/
namespace Go.Proofs.YtmnpchncmbnddaaGreat
open Go.RowKit

def kEn : Kd En := kAs (kPair (kInt .i64) (kPair (kInt .i64) (kPair (kInt .i64) (kPair kStr (kPair kBytes kBool))))) (fun s => (s.kind, s.stamp, s.count, s.key, s.value, s.dead))
def kVn : Kd Vn := kAs (kPair kStr (kPair (kInt .i64) (kPair kBytes kBool))) (fun s => (s.key, s.stamp, s.value, s.dead))
/-- The numbers of an entry are ints. -/
def En.ints (x : En) : Prop := (-9223372036854775808 ≤ x.kind ∧ x.kind ≤ 9223372036854775807) ∧ (-9223372036854775808 ≤ x.stamp ∧ x.stamp ≤ 9223372036854775807) ∧ (-9223372036854775808 ≤ x.count ∧ x.count ≤ 9223372036854775807)
def Vn.ints (x : Vn) : Prop := -9223372036854775808 ≤ x.stamp ∧ x.stamp ≤ 9223372036854775807
theorem en_R {w : World} {B : Nat} {t : En} {cs : List Value} (h : kEn.R w B t cs) : ∃ A' c', cs = (t.cells A' c').toList ∧ t.ints ∧ BReads w B A' t.value ∧ t.value.length ≤ c' := by
  obtain ⟨c1, c2, rfl, ⟨rfl, hk⟩, c3, c4, rfl, ⟨rfl, hs⟩, c5, c6, rfl, ⟨rfl, hn⟩, c7, c8, rfl, rfl, c9, c10, rfl, ⟨A', c', rfl, hc, hp⟩, rfl⟩ := h
  have hk' : -9223372036854775808 ≤ t.kind ∧ t.kind ≤ 9223372036854775807 := by simpa [Lit.wf, IntKind.min, IntKind.max, IntKind.signed, IntKind.bits] using hk
  have hs' : -9223372036854775808 ≤ t.stamp ∧ t.stamp ≤ 9223372036854775807 := by simpa [Lit.wf, IntKind.min, IntKind.max, IntKind.signed, IntKind.bits] using hs
  have hn' : -9223372036854775808 ≤ t.count ∧ t.count ≤ 9223372036854775807 := by simpa [Lit.wf, IntKind.min, IntKind.max, IntKind.signed, IntKind.bits] using hn
  exact ⟨A', c', rfl, ⟨hk', hs', hn'⟩, hp, hc⟩
theorem vn_R {w : World} {B : Nat} {t : Vn} {cs : List Value} (h : kVn.R w B t cs) : ∃ A' c', cs = (t.cells A' c').toList ∧ t.ints ∧ BReads w B A' t.value ∧ t.value.length ≤ c' := by
  obtain ⟨c1, c2, rfl, rfl, c3, c4, rfl, ⟨rfl, hs⟩, c5, c6, rfl, ⟨A', c', rfl, hc, hp⟩, rfl⟩ := h
  have hs' : -9223372036854775808 ≤ t.stamp ∧ t.stamp ≤ 9223372036854775807 := by simpa [Lit.wf, IntKind.min, IntKind.max, IntKind.signed, IntKind.bits] using hs
  exact ⟨A', c', rfl, hs', hp, hc⟩
end Go.Proofs.YtmnpchncmbnddaaGreat
/- Logs: Write, by contract. -/
namespace Go.Proofs.YtmnpchncmbnddaaGreat
open Go.RowKit

theorem en_at {w : World} {B : Nat} {A : Option Addr} {l : List En} (h : kEn.Sl w B A l) {i : Nat} (hi : i < l.length) :
    ∃ b off A' c', A = some ⟨b, off, none⟩ ∧ b < B ∧ (l[i]).ints ∧ w.cell? ⟨b, off + i * 6, none⟩ = some (.int .i64 (l[i]).kind) ∧ w.cell? ⟨b, off + i * 6 + 1, none⟩ = some (.int .i64 (l[i]).stamp) ∧
      w.cell? ⟨b, off + i * 6 + 2, none⟩ = some (.int .i64 (l[i]).count) ∧ w.cell? ⟨b, off + i * 6 + 3, none⟩ = some (.string (l[i]).key) ∧ w.cell? ⟨b, off + i * 6 + 4, none⟩ = some (.slice A' (l[i]).value.length c') ∧
      w.cell? ⟨b, off + i * 6 + 5, none⟩ = some (.bool (l[i]).dead) ∧ BReads w B A' (l[i]).value := by
  obtain ⟨b, off, hA, hb, hr⟩ := h (by omega)
  obtain ⟨cs, hR, hc⟩ := hr i _ (List.getElem?_eq_getElem hi)
  obtain ⟨A', c', rfl, h1, h2, _⟩ := en_R hR
  exact ⟨b, off, A', c', hA, hb, h1, hc 0 _ rfl, hc 1 _ rfl, hc 2 _ rfl, hc 3 _ rfl, hc 4 _ rfl, hc 5 _ rfl, h2⟩
/-- What holds in every world in which the blocks outside of S are as they were. -/
def Stays (S : Nat → Prop) (w : World) (Q : World → Prop) : Prop := ∀ w' : World, (∀ k, k < w.heap.size → ¬ S k → w'.heap[k]? = w.heap[k]?) → Q w'
theorem Stays.at_ {S : Nat → Prop} {w w' : World} {Q : World → Prop} (h : Stays S w Q) (hk : Keeps S w w') : Q w' := h w' fun k hlt hn => hk.block k hlt hn
/-- The bytes of entries, one frame behind the other. -/
def framesF (es : List En) : List UInt8 := (es.map fun e => frameF e.enc).flatten
end Go.Proofs.YtmnpchncmbnddaaGreat
/- The plain reader: bounds. No program in sight. -/
namespace Go.Proofs.YtmnpchncmbnddaaGreat
open Go.RowKit

theorem Rd.take_lt (r : Rd) (n : Nat) : (r.take n).1 < 256 ^ n := by
  unfold Rd.take Rd.step
  by_cases hf : r.f = 0
  · rw [if_pos hf]
    cases h : takeF n (r.l.drop r.at_) with
    | error m => exact Nat.pow_pos (by decide)
    | ok x => exact (takeF_lt h).1
  · rw [if_neg hf]; exact Nat.pow_pos (by decide)

theorem Rd.step_l {α : Type} (r : Rd) (n : α) (x : Except Int (α × Nat)) : (r.step n x).2.l = r.l := by
  unfold Rd.step
  split
  · split <;> rfl
  · rfl
theorem Rd.bytes_len (r : Rd) (m : Int) : (r.bytes m).1.length ≤ r.l.length := by
  unfold Rd.bytes Rd.step
  split
  · cases hb : blockF m (r.l.drop r.at_) with
    | error e => exact Nat.zero_le _
    | ok x =>
      have := (blockF_len hb).1
      rw [List.length_drop] at this
      show x.1.length ≤ _
      omega
  · exact Nat.zero_le _
end Go.Proofs.YtmnpchncmbnddaaGreat
/- Reading an entry off its bytes: there and back, in plain words. -/
namespace Go.Proofs.YtmnpchncmbnddaaGreat
open Go.RowKit

theorem blockF_most {p post : List UInt8} {most : Int} (hp : (p.length : Int) ≤ most) (hm : p.length ≤ 9223372036854775807) : blockF most (intF p.length ++ p ++ post) = .ok (p, (intF p.length ++ p).length) := by
  unfold blockF
  rw [if_neg (by omega), List.append_assoc, numberF_there (by omega) (by omega) (by omega) (by omega)]
  simp only [List.length_append]
  rw [if_neg (by omega), List.drop_left, Int.toNat_natCast, List.take_left]
theorem rd_take1 {b : List UInt8} {x : UInt8} {r : List UInt8} {at_ : Nat} (h : b.drop at_ = x :: r) : Rd.take ⟨b, at_, 0⟩ 1 = (x.toNat, ⟨b, at_ + 1, 0⟩) := by
  simp only [Rd.take, Rd.step, h, takeF, if_true]
  rw [if_neg (by simp)]
  simp [beVal]
theorem rd_bytes {b p post : List UInt8} {at_ : Nat} {most : Int} (h : b.drop at_ = intF p.length ++ p ++ post) (hp : (p.length : Int) ≤ most) (hm : p.length ≤ 9223372036854775807) : Rd.bytes ⟨b, at_, 0⟩ most = (p, ⟨b, at_ + (intF p.length ++ p).length, 0⟩) := by
  simp only [Rd.bytes, Rd.step, h, blockF_most hp hm, if_true]
theorem rd_int {b post : List UInt8} {at_ : Nat} {low high n : Int} (h : b.drop at_ = intF n ++ post) (h0 : -9223372036854775808 ≤ n) (h1 : n ≤ 9223372036854775807) (hl : low ≤ n) (hh : n ≤ high) : Rd.int ⟨b, at_, 0⟩ low high = (n, ⟨b, at_ + (intF n).length, 0⟩) := by
  simp only [Rd.int, Rd.step, h, numberF_there h0 h1 hl hh, if_true]
theorem drop_more {b x y : List UInt8} {k : Nat} (h : b.drop k = x ++ y) : b.drop (k + x.length) = y := by
  rw [← List.drop_drop, h, List.drop_left]
theorem rd_end {b : List UInt8} {k : Nat} (h : b.drop k = []) (hk : k ≤ b.length) : Rd.end_ ⟨b, k, 0⟩ = 0 := by
  have : b.length ≤ k := by have := congrArg List.length h; rw [List.length_drop, List.length_nil] at this; omega
  unfold Rd.end_ Rd.left
  simp only [if_true]
  rw [if_neg (by omega)]
theorem ba_eta (s : ByteArray) : (⟨s.data.toList.toArray⟩ : ByteArray) = s := by cases s; simp
theorem enc_head {y : En} (hm : y.may) : ∃ r, y.enc = UInt8.ofNat y.kind.toNat :: r := by
  unfold En.enc
  by_cases h1 : y.kind = 1
  · rw [if_pos h1, h1]; exact ⟨_, rfl⟩
  rw [if_neg h1]
  by_cases h2 : y.kind = 2
  · rw [if_pos h2, h2]; exact ⟨_, rfl⟩
  rw [if_neg h2]
  by_cases h5 : y.kind = 5
  · rw [if_pos h5, h5]; exact ⟨_, rfl⟩
  rw [if_neg h5]; exact ⟨_, rfl⟩
theorem enc_kind {y : En} {b : List UInt8} (hm : y.may) (he : y.enc = b) : Rd.take ⟨b, 0, 0⟩ 1 = (y.kind.toNat, ⟨b, 1, 0⟩) := by
  obtain ⟨r, hr⟩ := enc_head hm
  have hb := En.may_bounds hm
  have := rd_take1 (b := b) (at_ := 0) (x := UInt8.ofNat y.kind.toNat) (r := r) (by rw [← he]; exact hr)
  rw [this, UInt8.toNat_ofNat_of_lt' (by show _ < 256; omega)]
theorem dec_x {b : List UInt8} {k : Nat} {r1 : Rd} (h1 : Rd.take ⟨b, 0, 0⟩ 1 = (k, r1)) (hk : ¬ (1 ≤ k ∧ k ≤ 6)) : ¬ ∃ y : En, y.may ∧ y.enc = b := by
  rintro ⟨y, hm, he⟩
  have := enc_kind hm he
  rw [h1] at this
  injection this with e _
  have hb := En.may_bounds hm
  omega
/-- Whatever entry has these bytes, the reading has told it. -/
def Tells (b : List UInt8) (x : En) (r : Rd) : Prop := ∀ y : En, y.may → y.enc = b → y = x ∧ r.end_ = 0
theorem kind_eq {b : List UInt8} {k : Nat} {r1 : Rd} {y : En} (h1 : Rd.take ⟨b, 0, 0⟩ 1 = (k, r1)) (hm : y.may) (he : y.enc = b) : y.kind = (k : Int) ∧ r1 = ⟨b, 1, 0⟩ := by
  have := enc_kind hm he
  rw [h1] at this
  injection this with e1 e2
  have hb := En.may_bounds hm
  exact ⟨by omega, e2⟩
theorem pair_eq {α β : Type} {x : α × β} {a a' : α} {b b' : β} (h1 : x = (a, b)) (h2 : x = (a', b')) : a = a' ∧ b = b' := by
  rw [h1] at h2; injection h2 with e1 e2; exact ⟨e1, e2⟩
theorem dec_1 {b p1 p2 : List UInt8} {r1 r2 r3 : Rd} (h1 : Rd.take ⟨b, 0, 0⟩ 1 = (1, r1)) (h2 : r1.bytes 255 = (p1, r2)) (h3 : r2.bytes 4096 = (p2, r3)) : Tells b ⟨1, 0, 0, ⟨p1.toArray⟩, p2, false⟩ r3 := by
  intro y hm he
  obtain ⟨hk, rfl⟩ := kind_eq h1 hm he
  obtain ⟨k, s, n, key, v, d⟩ := y
  obtain rfl : k = 1 := hk
  rw [may_1] at hm
  obtain ⟨_, hks, rfl, rfl, rfl, hv⟩ := hm
  have e : [1] ++ intF key.size ++ key.data.toList ++ intF v.length ++ v = b := he
  have hkl := str_length key
  have d1 : b.drop 1 = intF key.data.toList.length ++ key.data.toList ++ (intF v.length ++ v) := by rw [hkl, ← e]; simp
  have q2 := rd_bytes (most := 255) d1 (by omega) (by omega)
  obtain ⟨rfl, rfl⟩ := pair_eq h2 q2
  have d2 : b.drop (1 + (intF key.data.toList.length ++ key.data.toList).length) = intF v.length ++ v ++ [] := by rw [drop_more d1, List.append_nil]
  have q3 := rd_bytes (most := 4096) d2 (by omega) (by omega)
  obtain ⟨rfl, rfl⟩ := pair_eq h3 q3
  refine ⟨by rw [ba_eta], rd_end (drop_more d2) ?_⟩
  rw [← e]; simp only [List.length_append, List.length_cons, List.length_nil, hkl]; omega
theorem dec_2 {b p1 : List UInt8} {r1 r2 : Rd} (h1 : Rd.take ⟨b, 0, 0⟩ 1 = (2, r1)) (h2 : r1.bytes 255 = (p1, r2)) : Tells b ⟨2, 0, 0, ⟨p1.toArray⟩, [], false⟩ r2 := by
  intro y hm he
  obtain ⟨hk, rfl⟩ := kind_eq h1 hm he
  obtain ⟨k, s, n, key, v, d⟩ := y
  obtain rfl : k = 2 := hk
  rw [may_2] at hm
  obtain ⟨_, hks, rfl, rfl, rfl, hv⟩ := hm
  obtain rfl := List.eq_nil_of_length_eq_zero hv
  have e : [2] ++ intF key.size ++ key.data.toList = b := he
  have hkl := str_length key
  have d1 : b.drop 1 = intF key.data.toList.length ++ key.data.toList ++ [] := by rw [hkl, ← e]; simp
  have q2 := rd_bytes (most := 255) d1 (by omega) (by omega)
  obtain ⟨rfl, rfl⟩ := pair_eq h2 q2
  refine ⟨by rw [ba_eta], rd_end (drop_more d1) ?_⟩
  rw [← e]; simp only [List.length_append, List.length_cons, List.length_nil, hkl]; omega
theorem dec_m {b : List UInt8} {k : Nat} {s n : Int} {r1 r2 r3 : Rd} (hk : k = 3 ∨ k = 4 ∨ k = 6) (h1 : Rd.take ⟨b, 0, 0⟩ 1 = (k, r1)) (h2 : r1.int 0 4611686018427387904 = (s, r2)) (h3 : r2.int 0 2147483647 = (n, r3)) : Tells b ⟨k, s, n, ⟨#[]⟩, [], false⟩ r3 := by
  intro y hm he
  obtain ⟨hky, rfl⟩ := kind_eq h1 hm he
  obtain ⟨k', s', n', key, v, d⟩ := y
  obtain rfl : k' = (k : Int) := hky
  rw [may_m (by omega)] at hm
  obtain ⟨hkz, _, _, _, _, rfl, hv⟩ := hm
  obtain rfl := List.eq_nil_of_length_eq_zero hv
  obtain rfl := str_empty hkz
  have e : [UInt8.ofNat k] ++ intF s' ++ intF n' = b := by
    rw [← he]
    unfold En.enc
    rw [if_neg (by show ¬ (k : Int) = 1; omega), if_neg (by show ¬ (k : Int) = 2; omega), if_neg (by show ¬ (k : Int) = 5; omega)]
    rfl
  have d1 : b.drop 1 = intF s' ++ intF n' := by rw [← e]; simp
  have q2 := rd_int (low := 0) (high := 4611686018427387904) d1 (by omega) (by omega) (by omega) (by omega)
  obtain ⟨rfl, rfl⟩ := pair_eq h2 q2
  have d2 : b.drop (1 + (intF s).length) = intF n' ++ [] := by rw [drop_more d1, List.append_nil]
  have q3 := rd_int (low := 0) (high := 2147483647) d2 (by omega) (by omega) (by omega) (by omega)
  obtain ⟨rfl, rfl⟩ := pair_eq h3 q3
  refine ⟨rfl, rd_end (drop_more d2) ?_⟩
  rw [← e]; simp only [List.length_append, List.length_cons, List.length_nil]; omega
theorem dec_5 {b p1 p2 : List UInt8} {s : Int} {k : Nat} {r1 r2 r3 r4 r5 : Rd} (h1 : Rd.take ⟨b, 0, 0⟩ 1 = (5, r1)) (h2 : r1.bytes 255 = (p1, r2)) (h3 : r2.int 0 4611686018427387904 = (s, r3)) (h4 : r3.take 1 = (k, r4)) (h5 : r4.bytes 4096 = (p2, r5)) :
    Tells b ⟨5, s, 0, ⟨p1.toArray⟩, p2, decide (k = 1)⟩ r5 := by
  intro y hm he
  obtain ⟨hky, rfl⟩ := kind_eq h1 hm he
  obtain ⟨k', s', n', key, v, d⟩ := y
  obtain rfl : k' = 5 := hky
  rw [may_5] at hm
  obtain ⟨_, hks, _, _, rfl, hv, _⟩ := hm
  have e : [5] ++ intF key.size ++ key.data.toList ++ intF s' ++ [if d then 1 else 0] ++ intF v.length ++ v = b := he
  have hkl := str_length key
  have d1 : b.drop 1 = intF key.data.toList.length ++ key.data.toList ++ (intF s' ++ ((if d then (1 : UInt8) else 0) :: (intF v.length ++ v))) := by rw [hkl, ← e]; simp
  have q2 := rd_bytes (most := 255) d1 (by omega) (by omega)
  obtain ⟨rfl, rfl⟩ := pair_eq h2 q2
  have d2 := drop_more d1
  have q3 := rd_int (low := 0) (high := 4611686018427387904) d2 (by omega) (by omega) (by omega) (by omega)
  obtain ⟨rfl, rfl⟩ := pair_eq h3 q3
  have d3 := drop_more d2
  have q4 := rd_take1 d3
  obtain ⟨rfl, rfl⟩ := pair_eq h4 q4
  have d4 : b.drop (1 + (intF key.data.toList.length ++ key.data.toList).length + (intF s).length + 1) = intF v.length ++ v ++ [] := by
    have := drop_more (x := [if d then (1 : UInt8) else 0]) (y := intF v.length ++ v) (k := 1 + (intF key.data.toList.length ++ key.data.toList).length + (intF s).length) (b := b) (by rw [d3]; rfl)
    rw [List.append_nil]; exact this
  have q5 := rd_bytes (most := 4096) d4 (by omega) (by omega)
  obtain ⟨rfl, rfl⟩ := pair_eq h5 q5
  refine ⟨by rw [ba_eta]; cases d <;> rfl, rd_end (drop_more d4) ?_⟩
  rw [← e]; simp only [List.length_append, List.length_cons, List.length_nil, hkl]; omega
/-- What Decode answers: the entry whose bytes these are, its value in new memory; or the error. -/
def DecPost (w : World) (b : List UInt8) (e : Ending) (w' : World) : Prop :=
  (∃ x : En, x.may ∧ x.enc = b ∧ ∃ A c, e = .returned (.tuple #[.agg (x.cells A c), .int .i64 0]) ∧ BOwns w' w.heap.size (.slice A x.value.length c) x.value ∧ Below w.heap.size w w') ∨
    ((¬ ∃ y : En, y.may ∧ y.enc = b) ∧ e = .returned (.tuple #[.agg (En.cells ⟨0, 0, 0, ⟨#[]⟩, [], false⟩ none 0), .int .i64 100]) ∧ Below w.heap.size w w')
theorem Tells.no {b : List UInt8} {x : En} {r : Rd} (h : Tells b x r) (hn : ¬ (x.may ∧ x.enc = b ∧ r.end_ = 0)) : ¬ ∃ y : En, y.may ∧ y.enc = b := by
  rintro ⟨y, hm, he⟩
  obtain ⟨rfl, h2⟩ := h y hm he
  exact hn ⟨hm, he, h2⟩
theorem enc_inj {x y : En} (hx : x.may) (hy : y.may) (h : x.enc = y.enc) : x = y := by
  have hb := En.may_bounds hy
  have ht := enc_kind hy rfl
  have hbx := En.may_bounds hx
  generalize hb' : y.enc = b at *
  rcases (show y.kind.toNat = 1 ∨ y.kind.toNat = 2 ∨ (y.kind.toNat = 3 ∨ y.kind.toNat = 4 ∨ y.kind.toNat = 6) ∨ y.kind.toNat = 5 from by omega) with hk | hk | hk | hk
  · rw [hk] at ht
    have := dec_1 ht (show Rd.bytes ⟨b, 1, 0⟩ 255 = (_, _) from rfl) (show Rd.bytes _ 4096 = (_, _) from rfl)
    exact (this x hx h).1.trans (this y hy hb').1.symm
  · rw [hk] at ht
    have := dec_2 ht (show Rd.bytes ⟨b, 1, 0⟩ 255 = (_, _) from rfl)
    exact (this x hx h).1.trans (this y hy hb').1.symm
  · have := dec_m hk ht (show Rd.int ⟨b, 1, 0⟩ 0 4611686018427387904 = (_, _) from rfl) (show Rd.int _ 0 2147483647 = (_, _) from rfl)
    exact (this x hx h).1.trans (this y hy hb').1.symm
  · rw [hk] at ht
    have := dec_5 ht (show Rd.bytes ⟨b, 1, 0⟩ 255 = (_, _) from rfl) (show Rd.int _ 0 4611686018427387904 = (_, _) from rfl) (show Rd.take _ 1 = (_, _) from rfl) (show Rd.bytes _ 4096 = (_, _) from rfl)
    exact (this x hx h).1.trans (this y hy hb').1.symm
end Go.Proofs.YtmnpchncmbnddaaGreat
/- What a log tells of bytes: the plain law. -/
namespace Go.Proofs.YtmnpchncmbnddaaGreat
open Go.RowKit

theorem beVal_of (k v : Nat) (h : v < 256 ^ k) : beVal (beN k v) = v := by
  have := beVal_beN k v h 0
  unfold beVal
  simpa using this
theorem beN_len4 (v : Nat) : (beN 4 v).length = 4 := by simp [beN]
theorem readF_frame {p z : List UInt8} (hp : p.length ≤ 65536) : readF (frameF p ++ z) = .ok (p, p.length + 9) := by
  have hl := frameF_len p
  have hh := headF_len p
  have e : frameF p ++ z = 197 :: (beN 4 p.length ++ (p ++ (beN 4 (sumF (headF p)) ++ z))) := by unfold frameF headF; simp
  have hn : numF (frameF p ++ z) = p.length := by
    unfold numF
    rw [e, List.drop_succ_cons, List.drop_zero, List.take_left' (beN_len4 _)]
    exact beVal_of 4 _ (by omega)
  have h5 : (frameF p ++ z).take (5 + p.length) = headF p := by unfold frameF; rw [List.append_assoc, List.take_left' (by omega)]
  have h6 : (frameF p ++ z).drop (5 + p.length) = beN 4 (sumF (headF p)) ++ z := by unfold frameF; rw [List.append_assoc, List.drop_left' (by omega)]
  have h7 : (frameF p ++ z).drop 5 = p ++ (beN 4 (sumF (headF p)) ++ z) := by
    have : frameF p ++ z = ([197] ++ beN 4 p.length) ++ (p ++ (beN 4 (sumF (headF p)) ++ z)) := by unfold frameF headF; simp
    rw [this, List.drop_left' (by rw [List.length_append, beN_len4]; rfl)]
  unfold readF
  rw [hn, h5, h6, h7, List.take_left' (beN_len4 _), List.take_left' rfl, beVal_of 4 _ (by have := sumF_lt (headF p); omega)]
  rw [if_neg (by rw [List.length_append]; omega), if_neg (by rw [e]; simp), if_neg (by rw [List.length_append]; omega), if_neg (by omega), if_neg (by rw [List.length_append]; omega), if_neg (by simp)]
  rw [show 5 + p.length + 4 = p.length + 9 from by omega]
open Classical in
/-- The entries told of frames, each with its end: up to the first that is no entry's. -/
noncomputable def tellL : List (Nat × List UInt8) → List (En × Nat)
  | [] => []
  | (t, p) :: r => if h : ∃ y : En, y.may ∧ y.enc = p then (h.choose, t) :: tellL r else []
theorem tellL_ok {t : Nat} {x : En} (hm : x.may) (r : List (Nat × List UInt8)) : tellL ((t, x.enc) :: r) = (x, t) :: tellL r := by
  have h : ∃ y : En, y.may ∧ y.enc = x.enc := ⟨x, hm, rfl⟩
  rw [tellL, dif_pos h, enc_inj h.choose_spec.1 hm h.choose_spec.2]
theorem tellL_no {t : Nat} {p : List UInt8} (h : ¬ ∃ y : En, y.may ∧ y.enc = p) (r : List (Nat × List UInt8)) : tellL ((t, p) :: r) = [] := by rw [tellL, dif_neg h]
/-- What a log tells of the bytes of its area. -/
noncomputable def tellF (b : List UInt8) : List (En × Nat) := tellL (allF b (b.length + 1) 0)
/-- Entries laid one behind the other, each with its end. -/
def endsF : Nat → List En → List (En × Nat)
  | _, [] => []
  | t, e :: r => (e, t + (e.enc.length + 9)) :: endsF (t + (e.enc.length + 9)) r
theorem allF_step {b z p : List UInt8} {t k : Nat} (hb : b.drop t = frameF p ++ z) (hp : p.length ≤ 65536) : allF b (k + 1) t = (t + (p.length + 9), p) :: allF b k (t + (p.length + 9)) := by
  rw [allF, hb, readF_frame hp]
theorem tell_frames : ∀ (es : List En), (∀ e ∈ es, e.may) → ∀ (b z : List UInt8) (t k : Nat), b.drop t = framesF es ++ z →
    tellL (allF b (k + es.length) t) = endsF t es ++ tellL (allF b k (t + (framesF es).length)) := by
  intro es
  induction es with
  | nil => intro _ b z t k _; simp [endsF, framesF]
  | cons e r ih =>
    intro hm b z t k hb
    have he : framesF (e :: r) = frameF e.enc ++ framesF r := rfl
    have hle := En.enc_len (hm e (List.mem_cons_self ..))
    rw [he, List.append_assoc] at hb
    rw [show k + (e :: r).length = (k + r.length) + 1 from by rw [List.length_cons]; omega, allF_step hb (by omega), tellL_ok (hm e (List.mem_cons_self ..)), endsF]
    have hb2 : b.drop (t + (e.enc.length + 9)) = framesF r ++ z := by
      rw [← List.drop_drop, hb, ← frameF_len, List.drop_left' rfl]
    rw [ih (fun x hx => hm x (List.mem_cons_of_mem _ hx)) b z _ k hb2, he, List.length_append, frameF_len, Nat.add_assoc]
    rfl
end Go.Proofs.YtmnpchncmbnddaaGreat
/- What a log tells of its own frames, and of bytes behind them: the plain law. -/
namespace Go.Proofs.YtmnpchncmbnddaaGreat
open Go.RowKit

theorem framesF_ge (es : List En) : es.length ≤ (framesF es).length := by
  induction es with
  | nil => simp
  | cons e r ih =>
    have h : framesF (e :: r) = frameF e.enc ++ framesF r := rfl
    rw [h, List.length_append, frameF_len, List.length_cons]; omega
theorem framesF_append (a b : List En) : framesF (a ++ b) = framesF a ++ framesF b := by unfold framesF; simp
/-- Bytes that no frame begins with. -/
def NoMark (z : List UInt8) : Prop := ∀ b, z.head? = some b → b ≠ 197
theorem readF_no {z : List UInt8} (h : NoMark z) : ∃ m, readF z = .error m := by
  unfold readF
  by_cases h0 : z.length = 0
  · exact ⟨_, if_pos h0⟩
  · rw [if_neg h0]
    cases z with
    | nil => exact absurd rfl h0
    | cons b r =>
      have hb := h b rfl
      refine ⟨_, if_pos ?_⟩
      simpa using hb
theorem tellF_junk {es : List En} (hm : ∀ e ∈ es, e.may) {z : List UInt8} (hz : NoMark z) : tellF (framesF es ++ z) = endsF 0 es := by
  have hg := framesF_ge es
  unfold tellF
  have e1 : (framesF es ++ z).length + 1 = ((framesF es ++ z).length - es.length + 1) + es.length := by rw [List.length_append]; omega
  rw [e1, tell_frames es hm (framesF es ++ z) z 0 _ (by rw [List.drop_zero]), allF, Nat.zero_add, List.drop_left' rfl]
  obtain ⟨m, hr⟩ := readF_no hz
  rw [hr]
  simp [tellL]
theorem tellF_frames {es : List En} (hm : ∀ e ∈ es, e.may) : tellF (framesF es) = endsF 0 es := by
  have h := tellF_junk hm (z := []) (fun b h => by cases h)
  rwa [List.append_nil] at h
theorem endsF_fst : ∀ (es : List En) (t : Nat), (endsF t es).map Prod.fst = es
  | [], _ => rfl
  | e :: r, t => by rw [endsF, List.map_cons, endsF_fst r]
theorem endsF_len (es : List En) (t : Nat) : (endsF t es).length = es.length := by
  have := congrArg List.length (endsF_fst es t)
  simpa using this
/-- Where entries that are laid one behind the other end. -/
def offsF (t : Nat) (es : List En) : List Nat := (endsF t es).map Prod.snd
theorem offsF_len (es : List En) (t : Nat) : (offsF t es).length = es.length := by unfold offsF; rw [List.length_map, endsF_len]
theorem told_of {xs : List En} {ns : List Nat} {es : List En} (h : xs.zip ns = endsF 0 es) (hl : ns.length = xs.length) : xs = es ∧ ns = offsF 0 es := by
  have h1 := congrArg (List.map Prod.fst) h
  have h2 := congrArg (List.map Prod.snd) h
  rw [endsF_fst, List.map_fst_zip (by omega)] at h1
  rw [List.map_snd_zip (by omega)] at h2
  exact ⟨h1, h2⟩
/-- Where the entries of a log end. -/
def endsI (base : Int) (es : List En) : List Int := (offsF 0 es).map fun o : Nat => base + (o : Int)
theorem endsI_len (base : Int) (es : List En) : (endsI base es).length = es.length := by unfold endsI; rw [List.length_map, offsF_len]
end Go.Proofs.YtmnpchncmbnddaaGreat
/- What a log tells of any bytes: frames, and what is no entry's behind them: the plain law. -/
namespace Go.Proofs.YtmnpchncmbnddaaGreat
open Go.RowKit

theorem readF_frameF {b p : List UInt8} {s : Nat} (h : readF b = .ok (p, s)) : ∃ z, b = frameF p ++ z ∧ s = p.length + 9 := by
  have hs := readF_ok h
  unfold readF at h
  split at h
  · cases h
  rename_i h0
  split at h
  · cases h
  rename_i h1
  split at h
  · cases h
  rename_i h2
  split at h
  · cases h
  rename_i h3
  split at h
  · cases h
  rename_i h4
  split at h
  · cases h
  rename_i h5
  injection h with h
  injection h with hp hs'
  refine ⟨b.drop (9 + numF b), ?_, by omega⟩
  have hb0 : b.getD 0 0 = 197 := Decidable.not_not.1 h1
  have hpl : p.length = numF b := by rw [← hp, List.length_take, List.length_drop]; omega
  have hhead : headF p = b.take (5 + numF b) := by
    unfold headF
    rw [hpl]
    have e1 : beN 4 (numF b) = (b.drop 1).take 4 := beN_beVal 4 _ (by rw [List.length_take, List.length_drop]; omega)
    rw [e1, ← hp]
    generalize numF b = n
    cases b with
    | nil => exact absurd rfl h0
    | cons x r =>
      have hx : x = 197 := hb0
      subst hx
      rw [show 5 + n = (4 + n) + 1 from by omega, List.take_succ_cons, List.take_add]
      rfl
  have hsum : beN 4 (sumF (headF p)) = (b.drop (5 + numF b)).take 4 := by
    rw [hhead, ← Decidable.not_not.1 h5]
    exact beN_beVal 4 _ (by rw [List.length_take, List.length_drop]; omega)
  unfold frameF
  have e2 : b.drop (5 + numF b + 4) = (b.drop (5 + numF b)).drop 4 := by rw [List.drop_drop]
  rw [hsum, hhead, show 9 + numF b = (5 + numF b) + 4 from by omega, e2, List.append_assoc, List.take_append_drop, List.take_append_drop]
theorem tell_split : ∀ (k : Nat) (b : List UInt8) (t : Nat), (b.drop t).length < k → ∃ es z, b.drop t = framesF es ++ z ∧ (∀ e ∈ es, e.may) ∧ tellL (allF b k t) = endsF t es
  | 0, _, _, h => absurd h (Nat.not_lt_zero _)
  | k + 1, b, t, h => by
    cases hr : readF (b.drop t) with
    | error m =>
      refine ⟨[], b.drop t, rfl, fun _ h => (by cases h), ?_⟩
      rw [allF, hr]
      rfl
    | ok x =>
      obtain ⟨p, s⟩ := x
      obtain ⟨z1, hz1, hs1⟩ := readF_frameF hr
      have hall : allF b (k + 1) t = (t + s, p) :: allF b k (t + s) := by rw [allF, hr]
      by_cases hy : ∃ y : En, y.may ∧ y.enc = p
      · obtain ⟨y, hm, rfl⟩ := hy
        have hd : b.drop (t + s) = z1 := by
          rw [← List.drop_drop, hz1, hs1, ← frameF_len, List.drop_left' rfl]
        obtain ⟨es, z, h1, h2, h3⟩ := tell_split k b (t + s) (by
          have := congrArg List.length hz1
          rw [List.length_append, frameF_len] at this
          rw [hd]; omega)
        refine ⟨y :: es, z, ?_, fun e he => ?_, ?_⟩
        · rw [hz1, ← hd, h1]
          show _ = (frameF y.enc ++ framesF es) ++ z
          rw [List.append_assoc]
        · rcases List.mem_cons.1 he with rfl | he
          · exact hm
          · exact h2 e he
        · rw [hall, tellL_ok hm, h3, hs1]; rfl
      · refine ⟨[], b.drop t, rfl, fun _ h => (by cases h), ?_⟩
        rw [hall, tellL_no hy]
        rfl
theorem tellF_split (b : List UInt8) : ∃ es z, b = framesF es ++ z ∧ (∀ e ∈ es, e.may) ∧ tellF b = endsF 0 es := by
  have := tell_split (b.length + 1) b 0 (by rw [List.drop_zero]; omega)
  rwa [List.drop_zero] at this
theorem offsF_get : ∀ (es : List En) (t i : Nat), i < es.length → (offsF t es)[i]? = some (t + (framesF (es.take (i + 1))).length)
  | [], _, _, h => absurd h (Nat.not_lt_zero _)
  | e :: r, t, i, h => by
    have h1 : offsF t (e :: r) = (t + (e.enc.length + 9)) :: offsF (t + (e.enc.length + 9)) r := rfl
    have h2 : ∀ q, framesF (e :: q) = frameF e.enc ++ framesF q := fun _ => rfl
    rw [h1, List.take_succ_cons, h2, List.length_append, frameF_len]
    cases i with
    | zero => rw [List.getElem?_cons_zero]; simp [framesF]
    | succ i =>
      rw [List.getElem?_cons_succ, offsF_get r _ i (by rw [List.length_cons] at h; omega)]
      congr 1
      omega
theorem frames_take (es : List En) (n : Nat) : framesF es = framesF (es.take n) ++ framesF (es.drop n) := by
  rw [← framesF_append, List.take_append_drop]
end Go.Proofs.YtmnpchncmbnddaaGreat
/- A region that draws its order, by what holds between two of its operations. -/
namespace Go.Proofs.YtmnpchncmbnddaaGreat
open Go.RowKit

/-- Each operation names only earlier ones. -/
def lexB (ops : Array Oper) : Bool := (List.range ops.size).all fun i => ((ops[i]?).map fun o => o.after.all fun e => decide (e.on < i)).getD true
theorem lexB_spec {ops : Array Oper} (h : lexB ops = true) {i : Nat} {o : Oper} (hi : ops[i]? = some o) : ∀ e ∈ o.after, e.on < i := by
  have hlt : i < ops.size := (Array.getElem?_eq_some_iff.1 hi).1
  have := List.all_eq_true.1 h i (List.mem_range.2 hlt)
  rw [hi] at this
  intro e he
  simp only [Option.map_some, Option.getD_some] at this
  exact of_decide_eq_true (Array.all_eq_true'.1 this e he)
/-- What is listed. -/
def lis (listed : Array Bool) (k : Nat) : Bool := listed.getD k false
def upd (L : Nat → Bool) (i : Nat) : Nat → Bool := fun k => if k = i then true else L k
theorem lis_upd {listed : Array Bool} {i : Nat} (h : i < listed.size) : lis (listed.setIfInBounds i true) = upd (lis listed) i := by
  funext k
  unfold lis upd
  rw [Array.getD_eq_getD_getElem?, Array.getElem?_setIfInBounds]
  by_cases hk : i = k
  · subst hk; simp [h]
  · simp [hk, Ne.symm hk]
theorem ready_spec {md : Region.Mode} {ops : Array Oper} {listed : Array Bool} {i : Nat} (hs : listed.size = ops.size) (h : i ∈ Region.ready md ops listed) :
    ∃ o, ops[i]? = some o ∧ lis listed i = false ∧ ∀ e ∈ o.after, Region.binds md e = true → lis listed e.on = true := by
  unfold Region.ready at h
  obtain ⟨h1, h2⟩ := List.mem_filter.1 h
  have hlt := List.mem_range.1 h1
  obtain ⟨h3, h4⟩ := Bool.and_eq_true_iff.1 h2
  rw [Array.getElem?_eq_getElem hlt] at h4
  refine ⟨_, Array.getElem?_eq_getElem hlt, ?_, fun e he hb => ?_⟩
  · unfold lis; rw [Array.getD_eq_getD_getElem?, Array.getElem?_eq_getElem (by omega)]
    rw [Array.getD_eq_getD_getElem?, Array.getElem?_eq_getElem (by omega)] at h3
    simpa using h3
  · simp only [Option.map_some, Option.getD_some] at h4
    have := Array.all_eq_true'.1 h4 e he
    rw [hb, Bool.not_true, Bool.false_or] at this
    exact this
theorem ready_nil {md : Region.Mode} {ops : Array Oper} {listed : Array Bool} (hs : listed.size = ops.size) (hl : lexB ops = true) (h : Region.ready md ops listed = []) : ∀ k, k < ops.size → lis listed k = true := by
  intro k
  induction k using Nat.strongRecOn with
  | _ k ih =>
    intro hk
    cases hb : lis listed k with
    | true => rfl
    | false =>
      exfalso
      have : k ∈ Region.ready md ops listed := by
        unfold Region.ready
        refine List.mem_filter.2 ⟨List.mem_range.2 hk, Bool.and_eq_true_iff.2 ⟨?_, ?_⟩⟩
        · unfold lis at hb
          rw [Array.getD_eq_getD_getElem?, Array.getElem?_eq_getElem (by omega)] at hb ⊢
          simpa using hb
        · rw [Array.getElem?_eq_getElem hk]
          simp only [Option.map_some, Option.getD_some]
          refine Array.all_eq_true'.2 fun e he => ?_
          have h1 := lexB_spec hl (Array.getElem?_eq_getElem hk) e he
          have h2 := ih e.on h1 (by omega)
          unfold lis at h2
          rw [h2, Bool.or_true]
      rw [h] at this
      cases this
def left (listed : Array Bool) : Nat := (listed.toList.filter (fun b => !b)).length
theorem left_set {listed : Array Bool} {i : Nat} (h : i < listed.size) (hf : lis listed i = false) : left (listed.setIfInBounds i true) + 1 = left listed := by
  unfold left lis at *
  rw [Array.getD_eq_getD_getElem?, Array.getElem?_eq_getElem h] at hf
  obtain ⟨l⟩ := listed
  simp only [List.size_toArray] at h
  simp only [List.getElem_toArray, Option.getD_some] at hf
  simp only [List.setIfInBounds_toArray]
  rw [List.set_eq_take_append_cons_drop, if_pos h]
  conv => rhs; rw [← List.take_append_drop i l, List.drop_eq_getElem_cons h, hf]
  simp [List.filter_append, List.filter_cons]
  omega
theorem lis_none (n : Nat) : lis (Array.replicate n false) = fun _ => false := by
  funext k; unfold lis
  rw [Array.getD_eq_getD_getElem?, Array.getElem?_replicate]; split <;> rfl
/-- A frame that is another one but for some slots. -/
structure Fr (S : List Nat) (a0 a : Act) : Prop where
  d : a.defers = a0.defers
  n : a.tmps.size = a0.tmps.size
  g : ∀ k, k ∉ S → a.tmps.getD k undef = a0.tmps.getD k undef
theorem Fr.refl (S : List Nat) (a : Act) : Fr S a a := ⟨rfl, rfl, fun _ _ => rfl⟩
theorem slot_get {a : Act} {d k : Nat} {v : Value} (h : d < a.tmps.size) : (a.put (some d) v).tmps.getD k undef = if k = d then v else a.tmps.getD k undef := by
  unfold Act.put
  simp only
  rw [Array.getD_eq_getD_getElem?, Array.getElem?_setIfInBounds]
  by_cases hk : d = k
  · subst hk; simp [h]
  · simp [hk, Ne.symm hk, Array.getD_eq_getD_getElem?]
theorem Fr.put {S : List Nat} {a0 a : Act} {d : Nat} (h : Fr S a0 a) (hd : d ∈ S) (v : Value) : Fr S a0 (a.put (some d) v) := by
  refine ⟨h.d, by unfold Act.put; simpa using h.n, fun k hk => ?_⟩
  by_cases hlt : d < a.tmps.size
  · rw [slot_get hlt, if_neg (fun e => hk (by rw [e]; exact hd))]; exact h.g k hk
  · unfold Act.put
    simp only
    rw [Array.setIfInBounds_eq_of_size_le (by omega)]; exact h.g k hk
theorem Fr.lit {S : List Nat} {a0 a : Act} (h : Fr S a0 a) : a = ⟨S.foldl (fun t k => t.setIfInBounds k (a.tmps.getD k undef)) a0.tmps, a0.defers⟩ := by
  have key : ∀ (S : List Nat) (t : Array Value), t.size = a.tmps.size → (∀ k, k ∉ S → t.getD k undef = a.tmps.getD k undef) → S.foldl (fun t k => t.setIfInBounds k (a.tmps.getD k undef)) t = a.tmps := by
    intro S
    induction S with
    | nil =>
      intro t hn hg
      show t = a.tmps
      refine Array.ext hn fun i h1 h2 => ?_
      have := hg i (by simp)
      rw [Array.getD_eq_getD_getElem?, Array.getD_eq_getD_getElem?, Array.getElem?_eq_getElem h1, Array.getElem?_eq_getElem h2] at this
      simpa using this
    | cons s S ih =>
      intro t hn hg
      refine ih _ (by simpa using hn) fun k hk => ?_
      rw [Array.getD_eq_getD_getElem?, Array.getElem?_setIfInBounds]
      by_cases hsk : s = k
      · subst hsk
        by_cases hlt : s < t.size
        · simp [hlt]
        · rw [if_pos rfl, if_neg hlt, Array.getD_eq_getD_getElem?, Array.getElem?_eq_none (by omega)]
      · rw [if_neg hsk, ← Array.getD_eq_getD_getElem?]
        exact hg k (by simp [hk, Ne.symm hsk])
  have := key S a0.tmps h.n.symm (fun k hk => (h.g k hk).symm)
  obtain ⟨t, d⟩ := a
  have hd := h.d
  simp only at this hd ⊢
  rw [this, hd]
/-- No piece. -/
def Item.none : Item := ⟨fun _ => False, fun _ => True, fun _ _ => trivial, fun _ h => h.elim⟩
theorem Turn.ofNone {w w' : World} {y : Item} (hb : Below w.heap.size w w') (hy : y.P w') (ho : ∀ k, y.own k → w.heap.size ≤ k) : Turn Item.none w y w' := ⟨hy, Keeps.of_below hb _, fun k hk => .inr (ho k hk)⟩
theorem Turn.get {a x : Item} {w w' : World} {L : List Item} {i : Nat} (h : Turn a w (Item.all L) w') (hi : L[i]? = some x) : x.P w' := Item.all_get h.p (List.mem_of_getElem? hi)
theorem Turn.step {a x y : Item} {w w' w'' : World} {L : List Item} {i : Nat} (h : Turn a w (Item.all L) w') (hi : L[i]? = some x) (t : Turn x w' y w'') : Turn a w (Item.all (L.set i y)) w'' := h.trans (Turn.set h.p hi t)
theorem Turn.more {a y : Item} {w w' w'' : World} {L : List Item} (h : Turn a w (Item.all L) w') (hb : Below w'.heap.size w' w'') (hy : y.P w'') (ho : ∀ k, y.own k → w'.heap.size ≤ k) : Turn a w (Item.all (y :: L)) w'' := h.trans (Turn.new h.p hb hy ho)
theorem Turn.nones {w w' : World} {L : List Item} {x : Item} (h : Turn x w (Item.all L) w') : Turn x w (Item.all (Item.none :: L)) w' := h.trans (Turn.new h.p (Below.refl _ _) trivial (fun _ h => h.elim))
theorem Turn.free {x : Item} {w w' : World} (h : Turn (Item.all []) w x w') : Below w.heap.size w w' := h.k.below (Nat.le_refl _) (fun k hk => by obtain ⟨i, hi, _⟩ := hk; cases hi)
end Go.Proofs.YtmnpchncmbnddaaGreat
/- A region that draws its order, in a round of a range over a function, by what holds between two of its operations. -/
namespace Go.Proofs.YtmnpchncmbnddaaGreat
open Go.RowKit

theorem anyIn_inv {F : Fence} {n : Nat} {P : Program} {md : Region.Mode} {ops : Array Oper} {Q : Exit → Act → World → Prop} (Inv : (Nat → Bool) → Act → World → Prop) (hl : lexB ops = true)
    (hs : ∀ L a w i o, ops[i]? = some o → L i = false → (∀ e ∈ o.after, Region.binds md e = true → L e.on = true) → Inv L a w → wpOpIn F n P ops Q i (Inv (upd L i)) a w)
    (he : ∀ L a w, (∀ k, k < ops.size → L k = true) → Inv L a w → Q .normal a w) :
    ∀ (fuel : Nat) (listed : Array Bool) (a : Act) (w : World), listed.size = ops.size → left listed ≤ fuel → Inv (lis listed) a w → wpAnyIn F n P md ops Q fuel listed a w := by
  intro fuel
  induction fuel with
  | zero =>
    intro listed a w hn hf h
    have hr : Region.ready md ops listed = [] := by
      rcases hrd : Region.ready md ops listed with _ | ⟨i, r⟩
      · rfl
      · obtain ⟨o, h1, h2, _⟩ := ready_spec hn (show i ∈ Region.ready md ops listed from by rw [hrd]; exact List.mem_cons_self ..)
        have := left_set (by have := (Array.getElem?_eq_some_iff.1 h1).1; omega) h2
        omega
    exact ⟨hr, he _ _ _ (ready_nil hn hl hr) h⟩
  | succ fuel ih =>
    intro listed a w hn hf h
    refine ⟨fun hr => he _ _ _ (ready_nil hn hl hr) h, fun i hi => ?_⟩
    obtain ⟨o, h1, h2, h3⟩ := ready_spec hn hi
    have hlt : i < listed.size := by have := (Array.getElem?_eq_some_iff.1 h1).1; omega
    refine wpOpIn_mono (fun a' w' h' => ih _ a' w' (by simpa using hn) (by have := left_set hlt h2; omega) ?_) (hs _ _ _ _ _ h1 h2 h3 h)
    rw [lis_upd hlt]
    exact h'
theorem regionIn_inv {F : Fence} {n : Nat} {P : Program} {id : Nat} {ops : Array Oper} {Q : Exit → Act → World → Prop} {a : Act} {w : World} (Inv : (Nat → Bool) → Act → World → Prop) (hm : P.follows .mixedOrders = true) (hl : lexB ops = true)
    (h0 : Inv (fun _ => false) a w.drew)
    (hs : ∀ L a w i o, ops[i]? = some o → L i = false → (∀ e ∈ o.after, Region.binds .any e = true → L e.on = true) → Inv L a w → wpOpIn F n P ops Q i (Inv (upd L i)) a w)
    (he : ∀ L a w, (∀ k, k < ops.size → L k = true) → Inv L a w → Q .normal a w) : (Code.region id ops true).wpIn F n P Q a w := by
  refine wpIn_region_any hm (anyIn_inv Inv hl hs he _ _ _ _ (by simp) ?_ ?_)
  · unfold left
    refine Nat.le_trans (List.length_filter_le _ _) (by simp)
  · rw [lis_none]; exact h0
end Go.Proofs.YtmnpchncmbnddaaGreat
/- Rows of any elements: pieces of memory, and append onto them. -/
namespace Go.Proofs.YtmnpchncmbnddaaGreat
open Go.RowKit

section
variable {w w' : World} {base base' n n' size : Nat} {e : TypeId} {v v' : Value} {xs xs' : List Value}
theorem rowT_keep (h : w.ownsRow base e size v n xs) (hk : ∀ k, v.ownBlock = some k → w'.heap[k]? = w.heap[k]?) : w'.ownsRow base e size v n xs := by
  refine ⟨h.1, ?_⟩
  rcases h.2 with h2 | ⟨g, cap, cur, hv, hb, hh, r⟩
  · exact .inl h2
  · exact .inr ⟨g, cap, cur, hv, hb, (hk g (by rw [hv]; rfl)).trans hh, r⟩
theorem rowT_lt (h : w.ownsRow base e size v n xs) {k : Nat} (hk : v.ownBlock = some k) : base ≤ k ∧ k < w.heap.size := by
  rcases h.2 with ⟨h2, _⟩ | ⟨g, cap, cur, hv, hg, hh, r⟩
  · rw [h2] at hk; cases hk
  · rw [hv] at hk
    injection hk with hk
    subst hk
    exact ⟨hg, (Array.getElem?_eq_some_iff.1 hh).1⟩
def Item.rowT (e : TypeId) (size : Nat) (v : Value) (n : Nat) (xs : List Value) : Item where
  own := fun k => v.ownBlock = some k
  P := fun w => w.ownsRow 0 e size v n xs
  keep := fun h hk => rowT_keep h hk
  lt := fun h hk => (rowT_lt h hk).2
theorem Turn.rowT (ho : w'.ownsRow 0 e size v' n' xs') (hg : w.grownBy w' v.ownBlock) (hf : v'.ownBlock = v.ownBlock ∨ v'.ownBlock = some w.heap.size) : Turn (Item.rowT e size v n xs) w (Item.rowT e size v' n' xs') w' :=
  ⟨ho, (Keeps.of_grown hg).mono (fun i hi => .inl hi.symm), fun k hk => by
    rcases hf with h | h
    · exact .inl (h.symm.trans hk)
    · have hk' : v'.ownBlock = some k := hk
      rw [h] at hk'; injection hk' with hk'; exact .inr (by omega)⟩
end
theorem wpIn_append_any {P : Program} {F : Fence} {N : Nat} {w : World} {o : Oper} {a : Act} {K : Act → World → Prop} {Q : Exit → Act → World → Prop} {s xo : Operand} {t tx : TypeId}
    (ho : o.op = .call { callee := .builtin .append, args := #[s, xo], argTypes := #[t, tx] })
    (base : Nat) {e : TypeId} {z : Value} {size bytes : Nat} (ht : P.underlying t = some (.slice e)) (hinfo : (P.info? e).map (fun i => (i.zero, i.size, i.bytes)) = some (some z, size, bytes))
    (hzs : z.cells.size = size) (hsz : 0 < size) (hb0 : 0 < bytes)
    {v : Value} {n : Nat} {xs : List Value} (hs : a.eval s = v) (hown : w.ownsRow base e size v n xs)
    {x : Value} {m : Nat} {news : List Value} (hx : a.eval xo = x) (hsrc : Src P size tx x m news w)
    (hbytes : (n + m) * bytes ≤ 140737488355328) (hbase : base ≤ w.heap.size)
    (h : ∀ v' w', w'.ownsRow base e size v' (n + m) (xs ++ news) → w.grownBy w' v.ownBlock → (v'.ownBlock = v.ownBlock ∨ v'.ownBlock = some w.heap.size) → K (a.put o.dst v') w') : o.wpIn F N P a w K Q := by
  obtain ⟨i, hi, hz, h4, h5⟩ := info_parts hinfo
  obtain ⟨v', w', hr, h2, h3, h4⟩ := run_append_any (P := P) w base t tx o.type e i z size bytes ht hi hz h4 h5 hzs hsz v n xs hown x m news hsrc hbytes hb0 hbase
  unfold Oper.wpIn
  refine ⟨?_, ?_⟩
  · simp [Oper.about, ho, resolve, Target.leads, Sem.run_pure]
  · rw [Oper.semAt_eq _ _ _ (by rw [ho]; intro c hc; cases hc)]
    unfold execOp
    simp only [ho, resolve, invoke, builtin, Sem.run_bind, Sem.run_pure, Result.andThen_ok, List.map_toArray, List.map_cons, List.map_nil, hs, hx, hr]
    exact h v' w' h2 h3 h4
end Go.Proofs.YtmnpchncmbnddaaGreat
