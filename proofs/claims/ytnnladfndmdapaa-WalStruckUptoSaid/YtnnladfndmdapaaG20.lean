/- Contracts and plain laws that this claim leans on, laid together: WalN, WalS. -/
import Derived.Test.YtnnladfndmdapaaG18
import Derived.Laws.Rows
set_option linter.all false
set_option linter.unusedVariables false
set_option linter.unusedSimpArgs false
set_option linter.unnecessarySimpa false
/- A log, a disk, an area that is not there: by contract (printed by a program of this claim's own). -/
namespace Go.Proofs.Ytnnladfndmdapaa
open Go.RowKit

set_option maxRecDepth 100000 in
theorem nWrite {w : World} (v : Value) : Calls Try.prog 43 #[.pointer none, v] w fun e w' => e = .returned (.int .i64 1) ∧ w = w' := by
  go_enter Try.func43, Try.ntmps43
  go_wp2
  go_ret
  exact ⟨rfl, rfl⟩
set_option maxRecDepth 100000 in
theorem nGroup {w : World} (v : Value) : Calls Try.prog 39 #[.pointer none, v] w fun e w' => e = .returned (.int .i64 1) ∧ w = w' := by
  go_enter Try.func39, Try.ntmps39
  go_wp2
  go_ret
  exact ⟨rfl, rfl⟩
set_option maxRecDepth 100000 in
theorem nSync {w : World} : Calls Try.prog 78 #[.pointer none] w fun e w' => e = .returned (.int .i64 1) ∧ w = w' := by
  go_enter Try.func78, Try.ntmps78
  go_wp2
  go_ret
  exact ⟨rfl, rfl⟩
set_option maxRecDepth 100000 in
theorem nCut {w : World} (v : Value) : Calls Try.prog 52 #[.pointer none, v] w fun e w' => e = .returned (.int .i64 1) ∧ w = w' := by
  go_enter Try.func52, Try.ntmps52
  go_wp2
  go_ret
  exact ⟨rfl, rfl⟩
set_option maxRecDepth 100000 in
theorem nTrim {w : World} (v : Value) : Calls Try.prog 51 #[.pointer none, v] w fun e w' => e = .returned (.int .i64 1) ∧ w = w' := by
  go_enter Try.func51, Try.ntmps51
  go_wp2
  go_ret
  exact ⟨rfl, rfl⟩
set_option maxRecDepth 100000 in
theorem nBounds {w : World} : Calls Try.prog 48 #[.pointer none] w fun e w' => e = .returned (.tuple #[.int .i64 0, .int .i64 0, .int .i64 0]) ∧ w = w' := by
  go_enter Try.func48, Try.ntmps48
  go_wp2
  go_ret3
  exact ⟨rfl, rfl⟩
set_option maxRecDepth 100000 in
theorem nEntries {w : World} : Calls Try.prog 41 #[.pointer none] w fun e w' => e = .returned (.tuple #[.slice none 0 0, .slice none 0 0]) ∧ w' = w.alloc (.cells #[.int .i64 0] 3) := by
  go_enter Try.func41, Try.ntmps41
  go_wp2_with fail
  refine nBounds.mono ?_
  rintro e w1 ⟨rfl, rfl⟩
  go_wp2
  go_ret2
  exact ⟨rfl, rfl⟩
set_option maxRecDepth 100000 in
theorem nFind {w : World} (v : Value) : Calls Try.prog 85 #[.pointer none, v] w fun e w' => e = .returned (.tuple #[.pointer none, .int .i64 1]) ∧ w = w' := by
  go_enter Try.func85, Try.ntmps85
  go_wp2
  go_ret2
  exact ⟨rfl, rfl⟩
set_option maxRecDepth 100000 in
theorem find_out {w : World} {d : Dk} (h : d.item.P w) (hn : d.ps.length ≤ 16) (i : Int) (hi : i < 0 ∨ (d.ps.length : Int) ≤ i) :
    Calls Try.prog 85 #[.pointer (some ⟨d.g, 0, none⟩), .int .i64 i] w fun e w' => e = .returned (.tuple #[.pointer none, .int .i64 81]) ∧ w = w' := by
  have q0 := (Dk.blk h).cell 0
  simp at q0
  obtain ⟨n, hN⟩ : ∃ n, n = d.ps.length := ⟨_, rfl⟩
  rw [← hN] at q0 hn hi
  clear h hN
  by_cases hneg : i < 0
  · clear hi
    go_enter Try.func85, Try.ntmps85
    go_wp2
    go_ret2
    exact ⟨rfl, rfl⟩
  · have d2 : (n : Int) ≤ i := by omega
    clear hi
    go_enter Try.func85, Try.ntmps85
    go_wp2
    go_ret2
    exact ⟨rfl, rfl⟩
set_option maxRecDepth 100000 in
theorem dBounds_nil {w : World} (i : Int) : Calls Try.prog 77 #[.pointer none, .int .i64 i] w fun e w' => e = .returned (.tuple #[.int .i64 0, .int .i64 0, .int .i64 0, .int .i64 1]) ∧ w = w' := by
  have HX := Lib.hid (nFind (.int .i64 i) : Calls Try.prog 85 #[.pointer none, .int .i64 i] w _)
  skip
  go_enter Try.func77, Try.ntmps77
  go_wp2_with fail
  refine HX.out.mono ?_
  rintro e w1 ⟨rfl, rfl⟩
  go_wp2
  refine bodyPost_ret (v := .tuple #[.int .i64 0, .int .i64 0, .int .i64 0, .int .i64 1]) (by simp [results, Try.results77, go_sem]) rfl ?_
  exact ⟨rfl, rfl⟩
set_option maxRecDepth 100000 in
theorem lOpen_nil {w : World} (i : Int) : Calls Try.prog 37 #[.pointer none, .int .i64 i] w fun e w' => e = .returned (.tuple #[.pointer none, .int .i64 1]) ∧ w = w' := by
  have HX := Lib.hid (dBounds_nil i : Calls Try.prog 77 #[.pointer none, .int .i64 i] w _)
  skip
  go_enter Try.func37, Try.ntmps37
  go_wp2_with fail
  refine HX.out.mono ?_
  rintro e w1 ⟨rfl, rfl⟩
  go_wp2
  go_ret2
  exact ⟨rfl, rfl⟩
set_option maxRecDepth 100000 in
theorem dBounds_out {w : World} {d : Dk} (h : d.item.P w) (hn : d.ps.length ≤ 16) (i : Int) (hi : i < 0 ∨ (d.ps.length : Int) ≤ i) : Calls Try.prog 77 #[.pointer (some ⟨d.g, 0, none⟩), .int .i64 i] w fun e w' => e = .returned (.tuple #[.int .i64 0, .int .i64 0, .int .i64 0, .int .i64 81]) ∧ w = w' := by
  have HX := Lib.hid (find_out h hn i hi : Calls Try.prog 85 #[.pointer (some ⟨d.g, 0, none⟩), .int .i64 i] w _)
  clear h hi
  go_enter Try.func77, Try.ntmps77
  go_wp2_with fail
  refine HX.out.mono ?_
  rintro e w1 ⟨rfl, rfl⟩
  go_wp2
  refine bodyPost_ret (v := .tuple #[.int .i64 0, .int .i64 0, .int .i64 0, .int .i64 81]) (by simp [results, Try.results77, go_sem]) rfl ?_
  exact ⟨rfl, rfl⟩
set_option maxRecDepth 100000 in
theorem lOpen_out {w : World} {d : Dk} (h : d.item.P w) (hn : d.ps.length ≤ 16) (i : Int) (hi : i < 0 ∨ (d.ps.length : Int) ≤ i) : Calls Try.prog 37 #[.pointer (some ⟨d.g, 0, none⟩), .int .i64 i] w fun e w' => e = .returned (.tuple #[.pointer none, .int .i64 81]) ∧ w = w' := by
  have HX := Lib.hid (dBounds_out h hn i hi : Calls Try.prog 77 #[.pointer (some ⟨d.g, 0, none⟩), .int .i64 i] w _)
  clear h hi
  go_enter Try.func37, Try.ntmps37
  go_wp2_with fail
  refine HX.out.mono ?_
  rintro e w1 ⟨rfl, rfl⟩
  go_wp2
  go_ret2
  exact ⟨rfl, rfl⟩
theorem blk3 (w : World) (o1 : Obj) (t : TypeId) (cs : Array Value) (o3 : Obj) : Blk (((w.alloc o1).alloc (.cells cs t)).alloc o3) (w.heap.size + 1) t cs := by
  have h := (Blk.new (w.alloc o1) t cs).below' ((Below.refl _ _).alloc (Nat.le_refl _) o3)
  rwa [World.size_alloc] at h
theorem blk4 (w : World) (o1 : Obj) (t : TypeId) (cs : Array Value) (o3 o4 : Obj) : Blk ((((w.alloc o1).alloc (.cells cs t)).alloc o3).alloc o4) (w.heap.size + 1) t cs :=
  (blk3 w o1 t cs o3).below' ((Below.refl _ _).alloc (Nat.le_refl _) o4)
theorem below3 (w : World) (o1 o2 o3 : Obj) : Below w.heap.size w (((w.alloc o1).alloc o2).alloc o3) :=
  (((Below.refl _ w).alloc (Nat.le_refl _) _).alloc (by simp) _).alloc (by simp; omega) _
theorem below4 (w : World) (o1 o2 o3 o4 : Obj) : Below w.heap.size w ((((w.alloc o1).alloc o2).alloc o3).alloc o4) :=
  (below3 w o1 o2 o3).alloc (by simp; omega) _
def kNil (k : Int) : Int := if k ≤ 4 then 1 else 0
/-- The cells of what a call answers. -/
def toldC (e x y z : Int) (A : Option Addr) (n c : Nat) (A' : Option Addr) (n' c' : Nat) : Array Value := #[.int .i64 e, .int .i64 x, .int .i64 y, .int .i64 z, .slice A n c, .slice A' n' c']
set_option maxRecDepth 100000 in
set_option maxHeartbeats 3200000 in
theorem nCall {w : World} {v : Value} (k a b : Int) (hk0 : 0 ≤ k) (hk6 : k ≤ 6) {A1 A2 A3 : Option Addr} {n1 n2 n3 c1 c2 c3 : Nat} :
    Calls Try.prog 54 #[v, .pointer none, .agg #[.int .i64 k, .int .i64 a, .int .i64 b, .slice A1 n1 c1, .slice A2 n2 c2, .slice A3 n3 c3]] w fun e w' => e = .returned (.agg (toldC (kNil k) 0 0 0 none 0 0 none 0 0)) ∧ Below w.heap.size w w' := by
  rcases (show k = 0 ∨ k = 1 ∨ k = 2 ∨ k = 3 ∨ k = 4 ∨ k = 5 ∨ k = 6 from by omega) with rfl | rfl | rfl | rfl | rfl | rfl | rfl
  · clear hk0 hk6
    go_enter Try.func54, Try.ntmps54
    go_wp2_with fail
    refine (nWrite _).mono ?_
    rintro e w1 ⟨rfl, rfl⟩
    go_wp2
    refine bodyPost_ret (results_cell_row rfl _ _ (w.heap.size + 1) _ _ _ _ rfl (blk3 _ _ _ _ _) Try.underlying90 rfl (by kernel_rfl)) rfl ⟨rfl, ?_⟩
    exact below3 _ _ _ _
  · clear hk0 hk6
    go_enter Try.func54, Try.ntmps54
    go_wp2_with fail
    refine (nGroup _).mono ?_
    rintro e w1 ⟨rfl, rfl⟩
    go_wp2
    refine bodyPost_ret (results_cell_row rfl _ _ (w.heap.size + 1) _ _ _ _ rfl (blk3 _ _ _ _ _) Try.underlying90 rfl (by kernel_rfl)) rfl ⟨rfl, ?_⟩
    exact below3 _ _ _ _
  · clear hk0 hk6
    go_enter Try.func54, Try.ntmps54
    go_wp2_with fail
    refine (nSync).mono ?_
    rintro e w1 ⟨rfl, rfl⟩
    go_wp2
    refine bodyPost_ret (results_cell_row rfl _ _ (w.heap.size + 1) _ _ _ _ rfl (blk3 _ _ _ _ _) Try.underlying90 rfl (by kernel_rfl)) rfl ⟨rfl, ?_⟩
    exact below3 _ _ _ _
  · clear hk0 hk6
    go_enter Try.func54, Try.ntmps54
    go_wp2_with fail
    refine (nCut _).mono ?_
    rintro e w1 ⟨rfl, rfl⟩
    go_wp2
    refine bodyPost_ret (results_cell_row rfl _ _ (w.heap.size + 1) _ _ _ _ rfl (blk3 _ _ _ _ _) Try.underlying90 rfl (by kernel_rfl)) rfl ⟨rfl, ?_⟩
    exact below3 _ _ _ _
  · clear hk0 hk6
    go_enter Try.func54, Try.ntmps54
    go_wp2_with fail
    refine (nTrim _).mono ?_
    rintro e w1 ⟨rfl, rfl⟩
    go_wp2
    refine bodyPost_ret (results_cell_row rfl _ _ (w.heap.size + 1) _ _ _ _ rfl (blk3 _ _ _ _ _) Try.underlying90 rfl (by kernel_rfl)) rfl ⟨rfl, ?_⟩
    exact below3 _ _ _ _
  · clear hk0 hk6
    go_enter Try.func54, Try.ntmps54
    go_wp2_with fail
    refine (nEntries).mono ?_
    rintro e w1 ⟨rfl, rfl⟩
    go_wp2
    refine bodyPost_ret (results_cell_row rfl _ _ (w.heap.size + 1) _ _ _ _ rfl (blk4 _ _ _ _ _ _) Try.underlying90 rfl (by kernel_rfl)) rfl ⟨rfl, ?_⟩
    exact below4 _ _ _ _ _
  · clear hk0 hk6
    go_enter Try.func54, Try.ntmps54
    go_wp2_with fail
    refine (nBounds).mono ?_
    rintro e w1 ⟨rfl, rfl⟩
    go_wp2
    refine bodyPost_ret (results_cell_row rfl _ _ (w.heap.size + 1) _ _ _ _ rfl (blk3 _ _ _ _ _) Try.underlying90 rfl (by kernel_rfl)) rfl ⟨rfl, ?_⟩
    exact below3 _ _ _ _
end Go.Proofs.Ytnnladfndmdapaa
/- Steps of the laws about logs, as arguments. -/
namespace Go.Proofs.Ytnnladfndmdapaa
open Go.RowKit

/-- A fate. -/
structure Ft where
  done : Int
  keep : Int
  torn : Int
/-- A step of a script. -/
structure Ws where
  kind : Int
  area : Int
  a : Int
  entries : List En
  p : List UInt8
  fates : List Ft
def kFt : Kd Ft := kAs (kPair (kInt .i64) (kPair (kInt .i64) (kInt .u8))) (fun s => (s.done, s.keep, s.torn))
set_option maxRecDepth 100000 in
theorem opens_ft : Opens kFt 80 :=
  opens_as (opens_struct (K := kPair (kInt .i64) (kPair (kInt .i64) (kInt .u8))) (by kernel_rfl) Try.underlying80
    (opensF_cons (opens_int (by kernel_rfl) Try.underlying3) rfl (opensF_cons (opens_int (by kernel_rfl) Try.underlying3) rfl (opensF_one (opens_int (by kernel_rfl) Try.underlying5) rfl))))
    (fun s : Ft => (s.done, s.keep, s.torn)) (fun a => ⟨a.1, a.2.1, a.2.2⟩) (fun _ => rfl)
theorem opens_fts : Opens (kSlice kFt) 82 := opens_slice (by kernel_rfl) Try.underlying82 opens_ft (by decide) (of_decide_eq_true (by kernel_rfl))
def kWs : Kd Ws := kAs (kPair (kInt .i64) (kPair (kInt .i64) (kPair (kInt .i64) (kPair (kSlice kEn) (kPair kBytes (kSlice kFt)))))) (fun s => (s.kind, s.area, s.a, s.entries, s.p, s.fates))
set_option maxRecDepth 100000 in
theorem opens_ws : Opens kWs 88 :=
  opens_as (opens_struct (K := kPair (kInt .i64) (kPair (kInt .i64) (kPair (kInt .i64) (kPair (kSlice kEn) (kPair kBytes (kSlice kFt)))))) (by kernel_rfl) Try.underlying88
    (opensF_cons (opens_int (by kernel_rfl) Try.underlying3) rfl (opensF_cons (opens_int (by kernel_rfl) Try.underlying3) rfl (opensF_cons (opens_int (by kernel_rfl) Try.underlying3) rfl
      (opensF_cons opens_ens rfl (opensF_cons (opens_bytes (T := 23) (E := 5) (by kernel_rfl) Try.underlying23 Try.underlying5 (by kernel_rfl) (by kernel_rfl)) rfl
        (opensF_one opens_fts rfl)))))))
    (fun s : Ws => (s.kind, s.area, s.a, s.entries, s.p, s.fates)) (fun a => ⟨a.1, a.2.1, a.2.2.1, a.2.2.2.1, a.2.2.2.2.1, a.2.2.2.2.2⟩) (fun _ => rfl)
theorem opens_wss : Opens (kSlice kWs) 86 := opens_slice (by kernel_rfl) Try.underlying86 opens_ws (by decide) (of_decide_eq_true (by kernel_rfl))
def Ws.ints (s : Ws) : Prop := (-9223372036854775808 ≤ s.kind ∧ s.kind ≤ 9223372036854775807) ∧ (-9223372036854775808 ≤ s.area ∧ s.area ≤ 9223372036854775807) ∧ (-9223372036854775808 ≤ s.a ∧ s.a ≤ 9223372036854775807)
theorem ws_at {w : World} {B : Nat} {A : Option Addr} {l : List Ws} (h : kWs.Sl w B A l) {i : Nat} (hi : i < l.length) :
    ∃ b off A1 A2 A3 c1 c2 c3, A = some ⟨b, off, none⟩ ∧ b < B ∧ (l[i]).ints ∧ w.cell? ⟨b, off + i * 6, none⟩ = some (.int .i64 (l[i]).kind) ∧ w.cell? ⟨b, off + i * 6 + 1, none⟩ = some (.int .i64 (l[i]).area) ∧
      w.cell? ⟨b, off + i * 6 + 2, none⟩ = some (.int .i64 (l[i]).a) ∧ w.cell? ⟨b, off + i * 6 + 3, none⟩ = some (.slice A1 (l[i]).entries.length c1) ∧ w.cell? ⟨b, off + i * 6 + 4, none⟩ = some (.slice A2 (l[i]).p.length c2) ∧
      w.cell? ⟨b, off + i * 6 + 5, none⟩ = some (.slice A3 (l[i]).fates.length c3) ∧ kEn.Sl w B A1 (l[i]).entries ∧ BReads w B A2 (l[i]).p ∧ kFt.Sl w B A3 (l[i]).fates := by
  obtain ⟨b, off, hA, hb, hr⟩ := h (by omega)
  obtain ⟨cs, hR, hc⟩ := hr i _ (List.getElem?_eq_getElem hi)
  obtain ⟨d1, d2, rfl, ⟨rfl, hk⟩, d3, d4, rfl, ⟨rfl, hs⟩, d5, d6, rfl, ⟨rfl, hn⟩, d7, d8, rfl, ⟨A1, c1, rfl, q1, r1⟩, d9, d10, rfl, ⟨A2, c2, rfl, q2, r2⟩, ⟨A3, c3, rfl, q3, r3⟩⟩ := hR
  have hk' : -9223372036854775808 ≤ (l[i]).kind ∧ (l[i]).kind ≤ 9223372036854775807 := by simpa [Lit.wf, IntKind.min, IntKind.max, IntKind.signed, IntKind.bits] using hk
  have hs' : -9223372036854775808 ≤ (l[i]).area ∧ (l[i]).area ≤ 9223372036854775807 := by simpa [Lit.wf, IntKind.min, IntKind.max, IntKind.signed, IntKind.bits] using hs
  have hn' : -9223372036854775808 ≤ (l[i]).a ∧ (l[i]).a ≤ 9223372036854775807 := by simpa [Lit.wf, IntKind.min, IntKind.max, IntKind.signed, IntKind.bits] using hn
  exact ⟨b, off, A1, A2, A3, c1, c2, c3, hA, hb, ⟨hk', hs', hn'⟩, hc 0 _ rfl, hc 1 _ rfl, hc 2 _ rfl, hc 3 _ rfl, hc 4 _ rfl, hc 5 _ rfl, r1, r2, r3⟩
end Go.Proofs.Ytnnladfndmdapaa
