/- Contracts and plain laws that this claim leans on, laid together: Disk3, Disk4, Wal1, EntK, Wal2. -/
import Derived.Test.YtnnladfndmdapaaG10
import Derived.Laws.MakeOwn
import Derived.Test.YtnnladfndmdapaaG01
import Derived.Test.YtnnladfndmdapaaG06
import Derived.Test.YtnnladfndmdapaaG05
set_option linter.all false
set_option linter.unusedVariables false
set_option linter.unusedSimpArgs false
set_option linter.unnecessarySimpa false
/- Disks: Append, Sync, Cut, Trim, Bounds, Read, Done, by contract (printed by a program of this claim's own). -/
namespace Go.Proofs.Ytnnladfndmdapaa
open Go.RowKit

theorem OpPost.pre {d : Dk} {i : Nat} {p : Pt} {w w1 : World} {R : Ar → Prop} {e : Ending} {w' : World} (hb : Below w.heap.size w w1) (h : OpPost d i p w1 R e w') : OpPost d i p w R e w' := by
  obtain ⟨b, h1, h2, h3, h4⟩ := h
  exact ⟨b, h1, h2, h3, Turn.pre hb h4⟩
set_option maxRecDepth 100000 in
set_option maxHeartbeats 1600000 in
theorem append1_any {w : World} {a : Ar} (h : a.item.P w) {x : Nat} {B c : Nat} {A : Option Addr} {b : List UInt8} (hx : w.cell? ⟨x, 0, none⟩ = some (.slice A b.length c)) (hr : BReads w B A b) (hl : a.l.length + b.length ≤ 140737488355328) :
    Calls Try.prog 80 #[.pointer (some ⟨a.g, 0, none⟩), .pointer (some ⟨x, 0, none⟩)] w fun e w' => ∃ bx : Ar, (fun a' => ∃ A' c', a' = { a with A := A', c := c', l := a.l ++ b }) bx ∧ bx.g = a.g ∧ ErrTurn a w 0 bx e w' := by
  have hc := aAppend_any (c := c) h hr hl
  have HC := Lib.hid hc
  clear hc h
  go_enter Try.func80, Try.ntmps80
  go_wp2_with fail
  refine HC.out.mono ?_
  rintro e w' ⟨A', c', rfl, ht⟩
  have HT := Lib.hid ht
  clear ht
  go_wp2
  go_ret
  exact ⟨_, ⟨A', c', rfl⟩, rfl, rfl, HT.out⟩
set_option maxRecDepth 100000 in
set_option maxHeartbeats 1600000 in
theorem dAppend_any {w : World} {d : Dk} (h : d.item.P w) (hn : d.ps.length ≤ 16) (i : Nat) {p : Pt} (hi0 : d.ps[i]? = some p) (hd0 : 0 ≤ p.done) (hd1 : p.done ≤ 1000000000000000000) (hgo : d.armed = true → p.done < p.fd) {c : Nat} {A : Option Addr} {b : List UInt8} (hr : BReads w w.heap.size A b) (hl : p.a.l.length + b.length ≤ 140737488355328) :
    Calls Try.prog 40 #[.pointer (some ⟨d.g, 0, none⟩), .int .i64 i, .slice A b.length c] w (OpPost d i p w (fun a' => ∃ A' c', a' = { p.a with A := A', c := c', l := p.a.l ++ b })) := by
  have B1 := Lib.hid ((Below.refl w.heap.size w).alloc (Nat.le_refl _) (.cells #[.slice A b.length c] 23))
  have hk := Blk.new w 23 #[.slice A b.length c]
  have hcl := hk.cell 0
  have hlt := hk.lt
  simp only [List.getElem?_toArray, List.getElem?_cons_zero] at hcl
  have hop := operate_append (Item.go h B1.out) hn i hi0 hd0 hd1 w.heap.size hgo (fun a' => ∃ A' c', a' = { p.a with A := A', c := c', l := p.a.l ++ b }) (fun W hP hB => append1_any hP ((hB.cell (p := ⟨w.heap.size, 0, none⟩) hlt).trans hcl) ((hr.below B1.out).below (hB.mono B1.out.size)) hl)
  have HOP := Lib.hid hop
  clear hop hk hcl hlt h hgo
  have hmf : ∀ (fn : Fn) (first cap : Array Value) (w : World), (Instr.makeFunc fn first cap).run Try.prog w = .ok (.func fn first cap) w := fun _ _ _ _ => rfl
  go_enter Try.func40, Try.ntmps40
  go_wp2_with fail
  refine HOP.out.mono ?_
  rintro e w' ⟨b', hR, hg, rfl, t⟩
  have HH := Lib.hid (show OpPost d i p w (fun a' => ∃ A' c', a' = { p.a with A := A', c := c', l := p.a.l ++ b }) (.returned (.int .i64 0)) w' from OpPost.pre B1.out ⟨b', hR, hg, rfl, t⟩)
  clear hR hg t
  go_wp2
  go_ret
  exact HH.out
set_option maxRecDepth 100000 in
set_option maxHeartbeats 1600000 in
theorem dAppend_down {w : World} {d : Dk} (h : d.item.P w) (hn : d.ps.length ≤ 16) (i : Nat) {p : Pt} (hi0 : d.ps[i]? = some p) (hd0 : 0 ≤ p.done) (hd1 : p.done ≤ 1000000000000000000) (ha : d.armed = true) (hdn : p.fd ≤ p.done) {c : Nat} {A : Option Addr} {b : List UInt8} :
    Calls Try.prog 40 #[.pointer (some ⟨d.g, 0, none⟩), .int .i64 i, .slice A b.length c] w fun e w' => e = .returned (.int .i64 80) ∧ Below w.heap.size w w' := by
  have B1 := Lib.hid ((Below.refl w.heap.size w).alloc (Nat.le_refl _) (.cells #[.slice A b.length c] 23))
  have hop := operate_append_down (Item.go h B1.out) hn i hi0 hd0 hd1 w.heap.size ha hdn
  have HOP := Lib.hid hop
  clear hop h ha
  have hmf : ∀ (fn : Fn) (first cap : Array Value) (w : World), (Instr.makeFunc fn first cap).run Try.prog w = .ok (.func fn first cap) w := fun _ _ _ _ => rfl
  go_enter Try.func40, Try.ntmps40
  go_wp2_with fail
  refine HOP.out.mono ?_
  rintro e w' ⟨rfl, hb⟩
  have HH := Lib.hid (B1.out.trans (hb.mono B1.out.size))
  clear hb
  go_wp2
  go_ret
  exact ⟨rfl, HH.out⟩
set_option maxRecDepth 100000 in
set_option maxHeartbeats 1600000 in
theorem cut1_any {w : World} {a : Ar} (h : a.item.P w) {x : Nat} {k : Nat} (hx : w.cell? ⟨x, 0, none⟩ = some (.int .i64 (a.base + k))) (hk : k ≤ a.l.length) (hs : a.safe ≤ a.l.length) (hb0 : 0 ≤ a.base) (hb1 : a.base ≤ 4611686018427387904) (hl : a.l.length ≤ 140737488355328) :
    Calls Try.prog 112 #[.pointer (some ⟨a.g, 0, none⟩), .pointer (some ⟨x, 0, none⟩)] w fun e w' => ∃ bx : Ar, (fun a' => a' = a.cut k) bx ∧ bx.g = a.g ∧ ErrTurn a w 0 bx e w' := by
  have hc := aCut_any h k hk hs hb0 hb1 hl
  have HC := Lib.hid hc
  clear hc h
  go_enter Try.func112, Try.ntmps112
  go_wp2_with fail
  refine HC.out.mono ?_
  rintro e w' ⟨rfl, ht⟩
  have HT := Lib.hid ht
  clear ht
  go_wp2
  go_ret
  exact ⟨_, rfl, rfl, rfl, HT.out⟩
set_option maxRecDepth 100000 in
set_option maxHeartbeats 1600000 in
theorem dCut_any {w : World} {d : Dk} (h : d.item.P w) (hn : d.ps.length ≤ 16) (i : Nat) {p : Pt} (hi0 : d.ps[i]? = some p) (hd0 : 0 ≤ p.done) (hd1 : p.done ≤ 1000000000000000000) (hgo : d.armed = true → p.done < p.fd) {k : Nat} (hk0 : k ≤ p.a.l.length) (hs : p.a.safe ≤ p.a.l.length) (hb0 : 0 ≤ p.a.base) (hb1 : p.a.base ≤ 4611686018427387904) (hl : p.a.l.length ≤ 140737488355328) :
    Calls Try.prog 89 #[.pointer (some ⟨d.g, 0, none⟩), .int .i64 i, .int .i64 (p.a.base + k)] w (OpPost d i p w (fun a' => a' = p.a.cut k)) := by
  have B1 := Lib.hid ((Below.refl w.heap.size w).alloc (Nat.le_refl _) (.cells #[.int .i64 (p.a.base + k)] 3))
  have hk := Blk.new w 3 #[.int .i64 (p.a.base + k)]
  have hcl := hk.cell 0
  have hlt := hk.lt
  simp only [List.getElem?_toArray, List.getElem?_cons_zero] at hcl
  have hop := operate_cut (Item.go h B1.out) hn i hi0 hd0 hd1 w.heap.size hgo (fun a' => a' = p.a.cut k) (fun W hP hB => cut1_any hP ((hB.cell (p := ⟨w.heap.size, 0, none⟩) hlt).trans hcl) hk0 hs hb0 hb1 hl)
  have HOP := Lib.hid hop
  clear hop hk hcl hlt h hgo
  have hmf : ∀ (fn : Fn) (first cap : Array Value) (w : World), (Instr.makeFunc fn first cap).run Try.prog w = .ok (.func fn first cap) w := fun _ _ _ _ => rfl
  go_enter Try.func89, Try.ntmps89
  go_wp2_with fail
  refine HOP.out.mono ?_
  rintro e w' ⟨b', hR, hg, rfl, t⟩
  have HH := Lib.hid (show OpPost d i p w (fun a' => a' = p.a.cut k) (.returned (.int .i64 0)) w' from OpPost.pre B1.out ⟨b', hR, hg, rfl, t⟩)
  clear hR hg t
  go_wp2
  go_ret
  exact HH.out
set_option maxRecDepth 100000 in
set_option maxHeartbeats 1600000 in
theorem dCut_down {w : World} {d : Dk} (h : d.item.P w) (hn : d.ps.length ≤ 16) (i : Nat) {p : Pt} (hi0 : d.ps[i]? = some p) (hd0 : 0 ≤ p.done) (hd1 : p.done ≤ 1000000000000000000) (ha : d.armed = true) (hdn : p.fd ≤ p.done) {k : Nat} :
    Calls Try.prog 89 #[.pointer (some ⟨d.g, 0, none⟩), .int .i64 i, .int .i64 (p.a.base + k)] w fun e w' => e = .returned (.int .i64 80) ∧ Below w.heap.size w w' := by
  have B1 := Lib.hid ((Below.refl w.heap.size w).alloc (Nat.le_refl _) (.cells #[.int .i64 (p.a.base + k)] 3))
  have hop := operate_cut_down (Item.go h B1.out) hn i hi0 hd0 hd1 w.heap.size ha hdn
  have HOP := Lib.hid hop
  clear hop h ha
  have hmf : ∀ (fn : Fn) (first cap : Array Value) (w : World), (Instr.makeFunc fn first cap).run Try.prog w = .ok (.func fn first cap) w := fun _ _ _ _ => rfl
  go_enter Try.func89, Try.ntmps89
  go_wp2_with fail
  refine HOP.out.mono ?_
  rintro e w' ⟨rfl, hb⟩
  have HH := Lib.hid (B1.out.trans (hb.mono B1.out.size))
  clear hb
  go_wp2
  go_ret
  exact ⟨rfl, HH.out⟩
set_option maxRecDepth 100000 in
set_option maxHeartbeats 1600000 in
theorem trim1_any {w : World} {a : Ar} (h : a.item.P w) {x : Nat} {k : Nat} (hx : w.cell? ⟨x, 0, none⟩ = some (.int .i64 (a.base + k))) (hk : k ≤ a.safe) (hs : a.safe ≤ a.l.length) (hb0 : 0 ≤ a.base) (hb1 : a.base ≤ 4611686018427387904) (hl : a.l.length ≤ 140737488355328) :
    Calls Try.prog 110 #[.pointer (some ⟨a.g, 0, none⟩), .pointer (some ⟨x, 0, none⟩)] w fun e w' => ∃ bx : Ar, (fun a' => ∃ A' c', a' = a.trim k A' c') bx ∧ bx.g = a.g ∧ ErrTurn a w 0 bx e w' := by
  have hc := aTrim_any h k hk hs hb0 hb1 hl
  have HC := Lib.hid hc
  clear hc h
  go_enter Try.func110, Try.ntmps110
  go_wp2_with fail
  refine HC.out.mono ?_
  rintro e w' ⟨A', c', rfl, ht⟩
  have HT := Lib.hid ht
  clear ht
  go_wp2
  go_ret
  exact ⟨_, ⟨A', c', rfl⟩, rfl, rfl, HT.out⟩
set_option maxRecDepth 100000 in
set_option maxHeartbeats 1600000 in
theorem dTrim_any {w : World} {d : Dk} (h : d.item.P w) (hn : d.ps.length ≤ 16) (i : Nat) {p : Pt} (hi0 : d.ps[i]? = some p) (hd0 : 0 ≤ p.done) (hd1 : p.done ≤ 1000000000000000000) (hgo : d.armed = true → p.done < p.fd) {k : Nat} (hk0 : k ≤ p.a.safe) (hs : p.a.safe ≤ p.a.l.length) (hb0 : 0 ≤ p.a.base) (hb1 : p.a.base ≤ 4611686018427387904) (hl : p.a.l.length ≤ 140737488355328) :
    Calls Try.prog 88 #[.pointer (some ⟨d.g, 0, none⟩), .int .i64 i, .int .i64 (p.a.base + k)] w (OpPost d i p w (fun a' => ∃ A' c', a' = p.a.trim k A' c')) := by
  have B1 := Lib.hid ((Below.refl w.heap.size w).alloc (Nat.le_refl _) (.cells #[.int .i64 (p.a.base + k)] 3))
  have hk := Blk.new w 3 #[.int .i64 (p.a.base + k)]
  have hcl := hk.cell 0
  have hlt := hk.lt
  simp only [List.getElem?_toArray, List.getElem?_cons_zero] at hcl
  have hop := operate_trim (Item.go h B1.out) hn i hi0 hd0 hd1 w.heap.size hgo (fun a' => ∃ A' c', a' = p.a.trim k A' c') (fun W hP hB => trim1_any hP ((hB.cell (p := ⟨w.heap.size, 0, none⟩) hlt).trans hcl) hk0 hs hb0 hb1 hl)
  have HOP := Lib.hid hop
  clear hop hk hcl hlt h hgo
  have hmf : ∀ (fn : Fn) (first cap : Array Value) (w : World), (Instr.makeFunc fn first cap).run Try.prog w = .ok (.func fn first cap) w := fun _ _ _ _ => rfl
  go_enter Try.func88, Try.ntmps88
  go_wp2_with fail
  refine HOP.out.mono ?_
  rintro e w' ⟨b', hR, hg, rfl, t⟩
  have HH := Lib.hid (show OpPost d i p w (fun a' => ∃ A' c', a' = p.a.trim k A' c') (.returned (.int .i64 0)) w' from OpPost.pre B1.out ⟨b', hR, hg, rfl, t⟩)
  clear hR hg t
  go_wp2
  go_ret
  exact HH.out
set_option maxRecDepth 100000 in
set_option maxHeartbeats 1600000 in
theorem dTrim_down {w : World} {d : Dk} (h : d.item.P w) (hn : d.ps.length ≤ 16) (i : Nat) {p : Pt} (hi0 : d.ps[i]? = some p) (hd0 : 0 ≤ p.done) (hd1 : p.done ≤ 1000000000000000000) (ha : d.armed = true) (hdn : p.fd ≤ p.done) {k : Nat} :
    Calls Try.prog 88 #[.pointer (some ⟨d.g, 0, none⟩), .int .i64 i, .int .i64 (p.a.base + k)] w fun e w' => e = .returned (.int .i64 80) ∧ Below w.heap.size w w' := by
  have B1 := Lib.hid ((Below.refl w.heap.size w).alloc (Nat.le_refl _) (.cells #[.int .i64 (p.a.base + k)] 3))
  have hop := operate_trim_down (Item.go h B1.out) hn i hi0 hd0 hd1 w.heap.size ha hdn
  have HOP := Lib.hid hop
  clear hop h ha
  have hmf : ∀ (fn : Fn) (first cap : Array Value) (w : World), (Instr.makeFunc fn first cap).run Try.prog w = .ok (.func fn first cap) w := fun _ _ _ _ => rfl
  go_enter Try.func88, Try.ntmps88
  go_wp2_with fail
  refine HOP.out.mono ?_
  rintro e w' ⟨rfl, hb⟩
  have HH := Lib.hid (B1.out.trans (hb.mono B1.out.size))
  clear hb
  go_wp2
  go_ret
  exact ⟨rfl, HH.out⟩
set_option maxRecDepth 100000 in
set_option maxHeartbeats 1600000 in
theorem dSync_any {w : World} {d : Dk} (h : d.item.P w) (hn : d.ps.length ≤ 16) (i : Nat) {p : Pt} (hi0 : d.ps[i]? = some p) (hd0 : 0 ≤ p.done) (hd1 : p.done ≤ 1000000000000000000) (hgo : d.armed = true → p.done < p.fd) :
    Calls Try.prog 104 #[.pointer (some ⟨d.g, 0, none⟩), .int .i64 i] w (OpPost d i p w (fun a' => a' = { p.a with safe := p.a.l.length })) := by
  have hop := operate_sync h hn i hi0 hd0 hd1 hgo (fun a' => a' = { p.a with safe := p.a.l.length }) (fun W hP hB => (aSync_any hP).mono fun e w' t => ⟨_, rfl, rfl, t⟩)
  have HOP := Lib.hid hop
  clear hop h hgo
  go_enter Try.func104, Try.ntmps104
  go_wp2_with fail
  refine HOP.out.mono ?_
  rintro e w' ⟨b', hR, hg, rfl, t⟩
  have HH := Lib.hid (show OpPost d i p w (fun a' => a' = { p.a with safe := p.a.l.length }) (.returned (.int .i64 0)) w' from ⟨b', hR, hg, rfl, t⟩)
  clear hR hg t
  go_wp2
  go_ret
  exact HH.out
set_option maxRecDepth 100000 in
set_option maxHeartbeats 1600000 in
theorem dSync_down {w : World} {d : Dk} (h : d.item.P w) (hn : d.ps.length ≤ 16) (i : Nat) {p : Pt} (hi0 : d.ps[i]? = some p) (hd0 : 0 ≤ p.done) (hd1 : p.done ≤ 1000000000000000000) (ha : d.armed = true) (hdn : p.fd ≤ p.done) :
    Calls Try.prog 104 #[.pointer (some ⟨d.g, 0, none⟩), .int .i64 i] w fun e w' => e = .returned (.int .i64 80) ∧ Below w.heap.size w w' := by
  have hop := operate_sync_down h hn i hi0 hd0 hd1 ha hdn
  have HOP := Lib.hid hop
  clear hop h ha
  go_enter Try.func104, Try.ntmps104
  go_wp2_with fail
  refine HOP.out.mono ?_
  rintro e w' ⟨rfl, hb⟩
  have HH := Lib.hid hb
  clear hb
  go_wp2
  go_ret
  exact ⟨rfl, HH.out⟩
set_option maxRecDepth 100000 in
set_option maxHeartbeats 1600000 in
theorem dBounds_any {w : World} {d : Dk} (h : d.item.P w) (hn : d.ps.length ≤ 16) (i : Nat) {p : Pt} (hi0 : d.ps[i]? = some p) (hb0 : 0 ≤ p.a.base) (hb1 : p.a.base ≤ 4611686018427387904) (hl : p.a.l.length ≤ 140737488355328) (hs : p.a.safe ≤ p.a.l.length) :
    Calls Try.prog 77 #[.pointer (some ⟨d.g, 0, none⟩), .int .i64 i] w fun e w' => e = .returned (.tuple #[.int .i64 p.a.base, .int .i64 (p.a.base + p.a.safe), .int .i64 (p.a.base + p.a.l.length), .int .i64 0]) ∧ Below w.heap.size w w' := by
  have hfi := find_any h hn i (List.getElem?_eq_some_iff.1 hi0).1
  have c0 := Dk.cell h hi0 (j := 0) (by decide)
  have c4 := Dk.cell h hi0 (j := 4) (by decide)
  unfold Pt.cells at c0 c4
  simp at c0 c4
  have HFI := Lib.hid hfi
  have HA := Lib.hid (Dk.area h hi0)
  clear hfi h hi0
  go_enter Try.func77, Try.ntmps77
  go_wp2_with fail
  refine HFI.out.mono ?_
  rintro e w' ⟨rfl, rfl⟩
  go_wp2_with fail
  refine (aBounds_any HA.out hb0 hb1 hl hs).mono ?_
  rintro e w2 ⟨rfl, hb⟩
  have HB := Lib.hid hb
  clear hb
  go_wp2
  refine bodyPost_ret (v := .tuple #[.int .i64 p.a.base, .int .i64 (p.a.base + p.a.safe), .int .i64 (p.a.base + p.a.l.length), .int .i64 0]) (by simp [results, Try.results77, go_sem]) rfl ?_
  exact ⟨rfl, HB.out⟩
set_option maxRecDepth 100000 in
set_option maxHeartbeats 1600000 in
theorem dRead_any {w : World} {d : Dk} (h : d.item.P w) (hn : d.ps.length ≤ 16) (i : Nat) {p : Pt} (hi0 : d.ps[i]? = some p) (k n : Nat) (hkn : k + n ≤ p.a.l.length) (hb0 : 0 ≤ p.a.base) (hb1 : p.a.base ≤ 4611686018427387904) (hl : p.a.l.length ≤ 140737488355328) :
    Calls Try.prog 82 #[.pointer (some ⟨d.g, 0, none⟩), .int .i64 i, .int .i64 (p.a.base + k), .int .i64 n] w fun e w' => ∃ A' c', e = .returned (.tuple #[.slice A' n c', .int .i64 0]) ∧ BOwns w' w.heap.size (.slice A' n c') ((p.a.l.drop k).take n) ∧ Below w.heap.size w w' := by
  have hfi := find_any h hn i (List.getElem?_eq_some_iff.1 hi0).1
  have c0 := Dk.cell h hi0 (j := 0) (by decide)
  have c4 := Dk.cell h hi0 (j := 4) (by decide)
  unfold Pt.cells at c0 c4
  simp at c0 c4
  have HFI := Lib.hid hfi
  have HA := Lib.hid (Dk.area h hi0)
  clear hfi h hi0
  go_enter Try.func82, Try.ntmps82
  go_wp2_with fail
  refine HFI.out.mono ?_
  rintro e w' ⟨rfl, rfl⟩
  go_wp2_with fail
  refine (aRead_any HA.out k n hkn hb0 hb1 hl).mono ?_
  rintro e w2 ⟨A', c', rfl, ho, hb⟩
  have HO := Lib.hid ho
  have HB := Lib.hid hb
  clear ho hb
  go_wp2
  go_ret2
  exact ⟨A', c', rfl, HO.out, HB.out⟩
set_option maxRecDepth 100000 in
set_option maxHeartbeats 1600000 in
theorem dDone_any {w : World} {d : Dk} (h : d.item.P w) (hn : d.ps.length ≤ 16) (i : Nat) {p : Pt} (hi0 : d.ps[i]? = some p)  :
    Calls Try.prog 47 #[.pointer (some ⟨d.g, 0, none⟩), .int .i64 i] w fun e w' => e = .returned (.int .i64 p.done) ∧ w = w' := by
  have hfi := find_any h hn i (List.getElem?_eq_some_iff.1 hi0).1
  have c0 := Dk.cell h hi0 (j := 0) (by decide)
  have c4 := Dk.cell h hi0 (j := 4) (by decide)
  unfold Pt.cells at c0 c4
  simp at c0 c4
  have HFI := Lib.hid hfi
  have HA := Lib.hid (Dk.area h hi0)
  clear hfi h hi0
  go_enter Try.func47, Try.ntmps47
  go_wp2_with fail
  refine HFI.out.mono ?_
  rintro e w' ⟨rfl, rfl⟩
  go_wp2
  go_ret
  exact ⟨rfl, rfl⟩
end Go.Proofs.Ytnnladfndmdapaa
/- Disks: New, by contract. -/
namespace Go.Proofs.Ytnnladfndmdapaa
open Go.RowKit

def zeroPt : List Value := [.pointer none, .int .i64 0, .int .i64 0, .int .u8 0, .int .i64 0]
theorem info_part : (Try.prog.info? 115).map (fun i => (i.zero.map Value.cells, i.size, i.bytes)) = some (some #[.pointer none, .int .i64 0, .int .i64 0, .int .u8 0, .int .i64 0], 5, 40) := by kernel_rfl
/-- The parts that are made, and those that are not. -/
def mixCells (ps : List Pt) (m : Nat) : Array Value := ((ps.map Pt.cells) ++ List.replicate m zeroPt).flatten.toArray
theorem mix_len (ps : List Pt) (m : Nat) : ∀ x ∈ (ps.map Pt.cells) ++ List.replicate m zeroPt, x.length = 5 := by
  intro x hx
  rcases List.mem_append.1 hx with h | h
  · exact pt_len ps x h
  · rw [(List.mem_replicate.1 h).2]; rfl
theorem made_eq (m : Nat) : madeCells #[.pointer none, .int .i64 0, .int .i64 0, .int .u8 0, .int .i64 0] (m * 5) = mixCells [] m := by
  apply Array.ext'
  unfold madeCells mixCells
  apply List.ext_getElem?
  intro t
  simp only [Array.toList_map, Array.toList_range, List.map_nil, List.nil_append, List.getElem?_map]
  by_cases ht : t < m * 5
  · rw [List.getElem?_range ht]
    have hi : (List.replicate m zeroPt)[t / 5]? = some zeroPt := by rw [List.getElem?_replicate, if_pos (by omega)]
    have := flat_get (L := List.replicate m zeroPt) (n := 5) (by intro x hx; rw [(List.mem_replicate.1 hx).2]; rfl) hi (j := t % 5) (by omega)
    rw [show t / 5 * 5 + t % 5 = t from by omega] at this
    rw [this]
    simp only [Option.map_some]
    have h5 : t % 5 < 5 := by omega
    rcases (show t % 5 = 0 ∨ t % 5 = 1 ∨ t % 5 = 2 ∨ t % 5 = 3 ∨ t % 5 = 4 from by omega) with e | e | e | e | e <;> simp [e, zeroPt]
  · rw [List.getElem?_eq_none (by simp; omega), List.getElem?_eq_none]
    · rfl
    · have : ∀ (L : List (List Value)), (∀ x ∈ L, x.length = 5) → L.flatten.length = L.length * 5 := by
        intro L hL
        induction L with
        | nil => rfl
        | cons x L ih => rw [List.flatten_cons, List.length_append, hL x (by simp), ih (fun y hy => hL y (by simp [hy])), List.length_cons]; omega
      rw [this _ (by intro x hx; rw [(List.mem_replicate.1 hx).2]; rfl), List.length_replicate]; omega
theorem mix_set {ps : List Pt} {m : Nat} {p : Pt} (hp : p.cells = .pointer (some ⟨p.a.g, 0, none⟩) :: zeroPt.tail) : (mixCells ps (m + 1)).setIfInBounds (ps.length * 5) (.pointer (some ⟨p.a.g, 0, none⟩)) = mixCells (ps ++ [p]) m := by
  apply Array.ext'
  unfold mixCells
  rw [Array.toList_setIfInBounds]
  show ((ps.map Pt.cells) ++ List.replicate (m + 1) zeroPt).flatten.set _ _ = _
  have := flat_set (mix_len ps (m + 1)) (i := ps.length) (j := 0) (x := zeroPt) (by rw [List.getElem?_append_right (by simp)]; simp [List.replicate_succ]) (by omega) (.pointer (some ⟨p.a.g, 0, none⟩))
  simp only [Nat.add_zero, List.length_map] at this
  rw [this]
  rw [List.set_append_right _ _ (by simp)]
  simp only [List.length_map, Nat.sub_self, List.replicate_succ, List.set_cons_zero, List.map_append, List.map_cons, List.map_nil, List.append_assoc, List.cons_append, List.nil_append]
  rw [hp]; rfl
theorem mix_get (ps : List Pt) (m : Nat) : (mixCells ps (m + 1))[ps.length * 5]? = some (.pointer none) := by
  unfold mixCells
  rw [List.getElem?_toArray]
  have := flat_get (mix_len ps (m + 1)) (i := ps.length) (j := 0) (x := zeroPt) (by rw [List.getElem?_append_right (by simp)]; simp [List.replicate_succ]) (by omega)
  simp only [Nat.add_zero] at this
  rw [this]; rfl
theorem mix_done (ps : List Pt) : mixCells ps 0 = partCells ps := by unfold mixCells partCells; simp
/-- A part with an empty area and no fate. -/
def freshPt (g : Nat) : Pt := ⟨⟨g, none, 0, 0, [], 0⟩, 0, 0, 0, 0⟩
/-- The pieces of a disk that is being made. -/
def newPieces (g gp n : Nat) (ps : List Pt) (m : Nat) : List Item := Item.blk g 111 #[.slice (some ⟨gp, 0, none⟩) n n, .bool false] :: Item.blk gp 115 (mixCells ps m) :: ps.map (fun p => p.a.item)
theorem new_step {w w1 w2 : World} {g gp n m : Nat} {ps : List Pt} (t : Turn (Item.all []) w (Item.all (newPieces g gp n ps (m + 1))) w1) (hb : Below w1.heap.size w1 w2) (ha : (freshPt w1.heap.size).a.item.P w2) :
    Turn (Item.all []) w (Item.all (newPieces g gp n (ps ++ [freshPt w1.heap.size]) m)) (w2.setCell ⟨gp, ps.length * 5, none⟩ (.pointer (some ⟨w1.heap.size, 0, none⟩))) := by
  have t1 := Turn.new t.p hb ha (fun k hk => by
    obtain ⟨i, hi, hk⟩ := hk
    simp only [List.mem_cons, List.not_mem_nil, or_false] at hi
    rcases hi with rfl | rfl
    · have : k = w1.heap.size := hk
      omega
    · cases hk)
  have hx : ((freshPt w1.heap.size).a.item :: newPieces g gp n ps (m + 1))[2]? = some (Item.blk gp 115 (mixCells ps (m + 1))) := rfl
  have hblk : Blk w2 gp 115 (mixCells ps (m + 1)) := Item.all_get t1.p (List.mem_of_getElem? hx)
  have t2 := Turn.set t1.p hx (Turn.cell hblk (ps.length * 5) (.pointer (some ⟨w1.heap.size, 0, none⟩)))
  rw [show (Value.pointer (some ⟨w1.heap.size, 0, none⟩)) = .pointer (some ⟨(freshPt w1.heap.size).a.g, 0, none⟩) from rfl, mix_set (p := freshPt w1.heap.size) rfl] at t2
  refine ((t.trans t1).trans t2).permR ?_
  have e : (((freshPt w1.heap.size).a.item :: newPieces g gp n ps (m + 1)).set 2 (Item.blk gp 115 (mixCells (ps ++ [freshPt w1.heap.size]) m))) =
      (freshPt w1.heap.size).a.item :: Item.blk g 111 #[.slice (some ⟨gp, 0, none⟩) n n, .bool false] :: Item.blk gp 115 (mixCells (ps ++ [freshPt w1.heap.size]) m) :: ps.map (fun p => p.a.item) := rfl
  rw [e]
  unfold newPieces
  rw [List.map_append]
  refine ((List.Perm.swap _ _ _).trans ((List.Perm.swap _ _ _).cons _)).trans (((?_ : List.Perm _ _).cons _).cons _)
  exact (List.perm_append_singleton _ _).symm
set_option maxRecDepth 100000 in
set_option maxHeartbeats 1600000 in
theorem dNew_any {w : World} (n : Nat) (h1 : 1 ≤ n) (h16 : n ≤ 16) :
    Calls Try.prog 35 #[.int .i64 n] w fun e w' => ∃ d : Dk, d.armed = false ∧ d.ps.length = n ∧ (∀ p ∈ d.ps, p = freshPt p.a.g) ∧ e = .returned (.tuple #[.pointer (some ⟨d.g, 0, none⟩), .int .i64 0]) ∧ Turn (Item.all []) w d.item w' := by
  have n1 : (1 : Int) ≤ (n : Int) := by omega
  have n2 : (n : Int) ≤ 16 := by omega
  obtain ⟨i0, hi0, hi1⟩ := Option.map_eq_some_iff.1 info_part
  simp only [Prod.mk.injEq] at hi1
  obtain ⟨hz, hs, hby⟩ := hi1
  obtain ⟨z, hz0, hzc⟩ := Option.map_eq_some_iff.1 hz
  have hm : ∀ w : World, (Instr.makeSlice 109 (.int .i64 n) (.int .i64 n)).run Try.prog w = .ok (.slice (some ⟨w.heap.size, 0, none⟩) n n) (w.alloc (.cells (mixCells [] n) 115)) := by
    intro w
    have := run_makeSlice (P := Try.prog) w 109 115 i0 z Try.underlying109 hi0 hz0 .i64 .i64 n n (by omega) (Int.le_refl _) (by rw [hs]; omega) (by rw [hby]; omega) (by omega)
    rw [hs, hzc, Int.toNat_natCast, made_eq] at this
    exact this
  clear hz hs hby hz0 hzc hi0
  have T0 := Lib.hid (show Turn (Item.all []) w (Item.all (newPieces (w.heap.size + 1) w.heap.size n [] n)) ((w.alloc (.cells (mixCells [] n) 115)).alloc (.cells #[.slice (some ⟨w.heap.size, 0, none⟩) n n, .bool false] 111)) from by
    have p0 : (Item.all []).P w := ⟨fun i hi => (by cases hi), List.Pairwise.nil⟩
    have t1 := Turn.new (y := Item.blk w.heap.size 115 (mixCells [] n)) p0 ((Below.refl _ _).alloc (Nat.le_refl _) (.cells (mixCells [] n) 115)) (Blk.new w _ _) (fun k hk => by have : k = w.heap.size := hk; omega)
    have hb2 := Blk.new (w.alloc (.cells (mixCells [] n) 115)) 111 #[.slice (some ⟨w.heap.size, 0, none⟩) n n, .bool false]
    have t2 := Turn.new (y := Item.blk (w.heap.size + 1) 111 #[.slice (some ⟨w.heap.size, 0, none⟩) n n, .bool false]) t1.p ((Below.refl _ _).alloc (Nat.le_refl _) (.cells #[.slice (some ⟨w.heap.size, 0, none⟩) n n, .bool false] 111)) (show Blk _ (w.heap.size + 1) _ _ from by simpa using hb2) (fun k hk => by have : k = w.heap.size + 1 := hk; simp; omega)
    exact t1.trans t2)
  go_enter Try.func35, Try.ntmps35
  go_upto_region 4 with fail
  obtain ⟨W, hW⟩ : ∃ W, W = (w.alloc (.cells (mixCells [] n) 115)).alloc (.cells #[.slice (some ⟨w.heap.size, 0, none⟩) n n, .bool false] 111) := ⟨_, rfl⟩
  obtain ⟨g, hg⟩ : ∃ g, g = w.heap.size + 1 := ⟨_, rfl⟩
  obtain ⟨gp, hgp⟩ : ∃ g, g = w.heap.size := ⟨_, rfl⟩
  rw [← hW, ← hg, ← hgp] at T0
  rw [← hW, ← hg, ← hgp]
  clear hW hg hgp hm
  have q0 := (show Blk W g 111 _ from Item.all_get T0.out.p (List.mem_cons_self ..)).cell 0
  simp at q0
  go_wp2
  clear q0
  go_loopw [21] (fun i wr => ∃ (K m : Nat) (ps : List Pt), i = .int .i64 K ∧ Hid (ps.length = K) ∧ K + m = n ∧ Hid (∀ p ∈ ps, p = freshPt p.a.g) ∧ Hid (Turn (Item.all []) w (Item.all (newPieces g gp n ps m)) wr)) (fun i _ => n - (intOf i).toNat)
  case atStart => exact ⟨0, n, [], rfl, Lib.hid rfl, by omega, Lib.hid (fun p hp => by cases hp), T0⟩
  case round =>
    obtain ⟨K, m, ps, rfl, hps, hKm, hfr, hT⟩ := hrel
    clear T0
    have hblk : Blk wr g 111 #[.slice (some ⟨gp, 0, none⟩) n n, .bool false] := Item.all_get hT.out.p (List.mem_cons_self ..)
    have hpb : Blk wr gp 115 (mixCells ps m) := Item.all_get hT.out.p (List.mem_cons_of_mem _ (List.mem_cons_self ..))
    have hne : ¬ g = gp := (List.pairwise_cons.1 hT.out.p.2).1 _ (List.mem_cons_self ..) g rfl
    have hnp : (⟨gp, K * 5, none⟩ : Addr) ≠ ⟨g, 0, none⟩ := fun e => hne (by injection e with e _; exact e.symm)
    by_cases hlt : (K : Int) < (n : Int)
    · obtain ⟨m', rfl⟩ : ∃ m', m = m' + 1 := ⟨m - 1, by omega⟩
      have y0 : wr.drew.cell? ⟨g, 0, none⟩ = some (.slice (some ⟨gp, 0, none⟩) n n) := by have := hblk.cell 0; simpa using this
      have HGL := Lib.hid hblk.lt
      have HPB := Lib.hid hpb
      have HTD := Lib.hid (hT.out.go (Below.refl _ _).drew)
      have HMG := Lib.hid (show (mixCells ps (m' + 1))[K * 5]? = some (.pointer none) from by rw [← hps.out]; exact mix_get ps m')
      have hKn : K < n := by omega
      have hKm' : K + 1 + m' = n := by omega
      clear hblk hpb hT hKm
      go_upto_region 7 with fail
      go_region_held3 (fun w' => w'.cell? ⟨g, 0, none⟩ = some (.slice (some ⟨gp, 0, none⟩) n n)) (first | (with_reducible exact y0) | (with_reducible exact z0) | (exact (World.cell?_setCell_other w2 ⟨gp, K * 5, none⟩ ⟨g, 0, none⟩ _ hnp).trans z0) | go_keep) ((go_at_call 76; refine aNew_any.mono ?_; rintro e w2 ⟨rfl, hP, hb⟩; have HP := Lib.hid hP; have HB := Lib.hid hb; have z0 := (hb.cell (p := ⟨g, 0, none⟩) HGL.out).trans y0; have z1 := (HPB.out.drewN 1).below' (w' := w2) hb; have fz := z1.frozen (K * 5); have cz := z1.cell (K * 5); rw [HMG.out] at cz; clear hP hb z1))
      have HT2 := Lib.hid (new_step HTD.out HB.out HP.out)
      rw [hps.out] at HT2
      have HF2 := Lib.hid (show ∀ p ∈ ps ++ [freshPt wr.drew.heap.size], p = freshPt p.a.g from by
        intro p hp
        rcases List.mem_append.1 hp with h | h
        · exact hfr.out p h
        · simp only [List.mem_cons, List.not_mem_nil, or_false] at h; subst h; rfl)
      have HL2 := Lib.hid (show (ps ++ [freshPt wr.drew.heap.size]).length = K + 1 from by rw [List.length_append, hps.out]; rfl)
      clear HP HB z0 fz cz HTD HPB hfr
      go_wp2
      exact ⟨⟨K + 1, m', _, by go_num, HL2, hKm', HF2, HT2⟩, by simp [intOf]; omega⟩
    · obtain rfl : m = 0 := by omega
      have HPS := Lib.hid (show ps.length = n from by rw [hps.out]; omega)
      have HT2 := hT
      clear hblk hpb hT
      go_wp2
      go_ret2
      refine ⟨⟨g, gp, false, ps⟩, rfl, HPS.out, hfr.out, rfl, ?_⟩
      have := HT2.out
      unfold newPieces at this
      rw [mix_done] at this
      unfold Dk.item Dk.pieces
      rw [HPS.out]
      exact this
end Go.Proofs.Ytnnladfndmdapaa
/- Logs: Open, Sync, Cut, Trim, Bounds, by contract (printed by a program of this claim's own). -/
namespace Go.Proofs.Ytnnladfndmdapaa
open Go.RowKit

def logCells (d : Dk) (i : Nat) : Array Value := #[.pointer (some ⟨d.g, 0, none⟩), .int .i64 i]
/-- A log and its disk. -/
def lgItem (gl : Nat) (d : Dk) (i : Nat) : Item := Item.all [Item.blk gl 119 (logCells d i), d.item]
theorem lg_blk {w : World} {gl i : Nat} {d : Dk} (h : (lgItem gl d i).P w) : Blk w gl 119 (logCells d i) := Item.all_get h (List.mem_cons_self ..)
theorem lg_disk {w : World} {gl i : Nat} {d : Dk} (h : (lgItem gl d i).P w) : d.item.P w := Item.all_get (x := d.item) h (by simp)
/-- An operation of the log's area was carried out. -/
def LogPost (gl : Nat) (d : Dk) (i : Nat) (p : Pt) (w : World) (R : Ar → Prop) (e : Ending) (w' : World) : Prop :=
  ∃ b, R b ∧ b.g = p.a.g ∧ e = .returned (.int .i64 0) ∧ Turn (lgItem gl d i) w (lgItem gl (d.put i { p with a := b, done := p.done + 1 }) i) w'
theorem lg_turn {w w' : World} {gl i : Nat} {d d' : Dk} (h : (lgItem gl d i).P w) (t : Turn d.item w d'.item w') (hg : d'.g = d.g) : Turn (lgItem gl d i) w (lgItem gl d' i) w' := by
  unfold lgItem logCells
  rw [hg]
  exact Turn.second h t
set_option maxRecDepth 100000 in
set_option maxHeartbeats 1600000 in
theorem lOpen_any {w : World} {d : Dk} (h : d.item.P w) (hn : d.ps.length ≤ 16) (i : Nat) {p : Pt} (hi0 : d.ps[i]? = some p) (hb0 : 0 ≤ p.a.base) (hb1 : p.a.base ≤ 4611686018427387904) (hl : p.a.l.length ≤ 140737488355328) (hs : p.a.safe ≤ p.a.l.length) :
    Calls Try.prog 37 #[.pointer (some ⟨d.g, 0, none⟩), .int .i64 i] w fun e w' => ∃ gl, w.heap.size ≤ gl ∧ e = .returned (.tuple #[.pointer (some ⟨gl, 0, none⟩), .int .i64 0]) ∧ Blk w' gl 119 (logCells d i) ∧ Below w.heap.size w w' := by
  have hx := dBounds_any h hn i hi0 hb0 hb1 hl hs
  have HX := Lib.hid hx
  clear hx h hi0
  go_enter Try.func37, Try.ntmps37
  go_wp2_with fail
  refine HX.out.mono ?_
  rintro e w1 ⟨rfl, hb⟩
  have HB := Lib.hid (hb.alloc hb.size (.cells #[.pointer (some ⟨d.g, 0, none⟩), .int .i64 i] 119))
  have HK := Lib.hid (Blk.new w1 119 #[.pointer (some ⟨d.g, 0, none⟩), .int .i64 i])
  have HS := Lib.hid hb.size
  clear hb
  go_wp2
  go_ret2
  exact ⟨w1.heap.size, HS.out, rfl, HK.out, HB.out⟩
set_option maxRecDepth 100000 in
set_option maxHeartbeats 1600000 in
theorem lSync_any {w : World} {gl : Nat} {d : Dk} (i : Nat) {p : Pt} (h : (lgItem gl d i).P w) (hn : d.ps.length ≤ 16) (hi0 : d.ps[i]? = some p) (hd0 : 0 ≤ p.done) (hd1 : p.done ≤ 1000000000000000000) (hgo : d.armed = true → p.done < p.fd)   :
    Calls Try.prog 78 #[.pointer (some ⟨gl, 0, none⟩)] w (LogPost gl d i p w (fun a' => a' = { p.a with safe := p.a.l.length })) := by
  have y0 : w.drew.cell? ⟨gl, 0, none⟩ = some (.pointer (some ⟨d.g, 0, none⟩)) := by have := (lg_blk h).cell 0; simpa [logCells] using this
  have y1 : w.drew.cell? ⟨gl, 1, none⟩ = some (.int .i64 i) := by have := (lg_blk h).cell 1; simpa [logCells] using this
  have H := Lib.hid (Item.go h (Below.refl _ _).drew)
  have hx := dSync_any (lg_disk H.out) hn i hi0 hd0 hd1 hgo
  have HX := Lib.hid hx
  clear hx h hi0 hgo
  go_enter Try.func78, Try.ntmps78
  go_upto_region 3 with fail
  go_region_held3 (fun w' => w'.cell? ⟨gl, 0, none⟩ = some (.pointer (some ⟨d.g, 0, none⟩)) ∧ w'.cell? ⟨gl, 1, none⟩ = some (.int .i64 i)) (first | (with_reducible exact ⟨y0, y1⟩) | (with_reducible exact ⟨z0, z1⟩) | go_keep) ((go_at_call 104; refine HX.out.mono ?_; rintro e w2 ⟨b', hR, hg, rfl, t⟩; have TT := Lib.hid (lg_turn H.out t rfl); have z0 : w2.cell? ⟨gl, 0, none⟩ = some (.pointer (some ⟨d.g, 0, none⟩)) := (by have := (lg_blk TT.out.p).cell 0; simpa [logCells, Dk.put] using this); have z1 : w2.cell? ⟨gl, 1, none⟩ = some (.int .i64 i) := (by have := (lg_blk TT.out.p).cell 1; simpa [logCells] using this); have HR := Lib.hid hR; have HG := Lib.hid hg; clear hR hg t))
  go_wp2
  go_ret
  exact ⟨b', HR.out, HG.out, rfl, Turn.pre (Below.refl _ _).drew TT.out⟩
set_option maxRecDepth 100000 in
set_option maxHeartbeats 1600000 in
theorem lSync_down {w : World} {gl : Nat} {d : Dk} (i : Nat) {p : Pt} (h : (lgItem gl d i).P w) (hn : d.ps.length ≤ 16) (hi0 : d.ps[i]? = some p) (hd0 : 0 ≤ p.done) (hd1 : p.done ≤ 1000000000000000000) (ha : d.armed = true) (hdn : p.fd ≤ p.done)  :
    Calls Try.prog 78 #[.pointer (some ⟨gl, 0, none⟩)] w fun e w' => e = .returned (.int .i64 80) ∧ Below w.heap.size w w' := by
  have y0 : w.drew.cell? ⟨gl, 0, none⟩ = some (.pointer (some ⟨d.g, 0, none⟩)) := by have := (lg_blk h).cell 0; simpa [logCells] using this
  have y1 : w.drew.cell? ⟨gl, 1, none⟩ = some (.int .i64 i) := by have := (lg_blk h).cell 1; simpa [logCells] using this
  have H := Lib.hid (Item.go h (Below.refl _ _).drew)
  have HL := Lib.hid (show gl < w.drew.heap.size from (lg_blk h).lt)
  have hx := dSync_down (lg_disk H.out) hn i hi0 hd0 hd1 ha hdn
  have HX := Lib.hid hx
  clear hx h hi0 ha
  go_enter Try.func78, Try.ntmps78
  go_upto_region 3 with fail
  go_region_held3 (fun w' => w'.cell? ⟨gl, 0, none⟩ = some (.pointer (some ⟨d.g, 0, none⟩)) ∧ w'.cell? ⟨gl, 1, none⟩ = some (.int .i64 i)) (first | (with_reducible exact ⟨y0, y1⟩) | (with_reducible exact ⟨z0, z1⟩) | go_keep) ((go_at_call 104; refine HX.out.mono ?_; rintro e w2 ⟨rfl, hb⟩; have HB := Lib.hid hb; have z0 := (hb.cell (p := ⟨gl, 0, none⟩) HL.out).trans y0; have z1 := (hb.cell (p := ⟨gl, 1, none⟩) HL.out).trans y1; clear hb))
  go_wp2
  go_ret
  exact ⟨rfl, ((Below.refl w.heap.size w).drew).trans HB.out⟩
set_option maxRecDepth 100000 in
set_option maxHeartbeats 1600000 in
theorem lCut_any {w : World} {gl : Nat} {d : Dk} (i : Nat) {p : Pt} (h : (lgItem gl d i).P w) (hn : d.ps.length ≤ 16) (hi0 : d.ps[i]? = some p) (hd0 : 0 ≤ p.done) (hd1 : p.done ≤ 1000000000000000000) (hgo : d.armed = true → p.done < p.fd) {k : Nat} (hk : k ≤ p.a.l.length) (hs : p.a.safe ≤ p.a.l.length) (hb0 : 0 ≤ p.a.base) (hb1 : p.a.base ≤ 4611686018427387904) (hl : p.a.l.length ≤ 140737488355328) :
    Calls Try.prog 52 #[.pointer (some ⟨gl, 0, none⟩), .int .i64 (p.a.base + k)] w (LogPost gl d i p w (fun a' => a' = p.a.cut k)) := by
  have y0 : w.drew.cell? ⟨gl, 0, none⟩ = some (.pointer (some ⟨d.g, 0, none⟩)) := by have := (lg_blk h).cell 0; simpa [logCells] using this
  have y1 : w.drew.cell? ⟨gl, 1, none⟩ = some (.int .i64 i) := by have := (lg_blk h).cell 1; simpa [logCells] using this
  have H := Lib.hid (Item.go h (Below.refl _ _).drew)
  have hx := dCut_any (lg_disk H.out) hn i hi0 hd0 hd1 hgo hk hs hb0 hb1 hl
  have HX := Lib.hid hx
  clear hx h hi0 hgo
  go_enter Try.func52, Try.ntmps52
  go_upto_region 3 with fail
  go_region_held3 (fun w' => w'.cell? ⟨gl, 0, none⟩ = some (.pointer (some ⟨d.g, 0, none⟩)) ∧ w'.cell? ⟨gl, 1, none⟩ = some (.int .i64 i)) (first | (with_reducible exact ⟨y0, y1⟩) | (with_reducible exact ⟨z0, z1⟩) | go_keep) ((go_at_call 89; refine HX.out.mono ?_; rintro e w2 ⟨b', hR, hg, rfl, t⟩; have TT := Lib.hid (lg_turn H.out t rfl); have z0 : w2.cell? ⟨gl, 0, none⟩ = some (.pointer (some ⟨d.g, 0, none⟩)) := (by have := (lg_blk TT.out.p).cell 0; simpa [logCells, Dk.put] using this); have z1 : w2.cell? ⟨gl, 1, none⟩ = some (.int .i64 i) := (by have := (lg_blk TT.out.p).cell 1; simpa [logCells] using this); have HR := Lib.hid hR; have HG := Lib.hid hg; clear hR hg t))
  go_wp2
  go_ret
  exact ⟨b', HR.out, HG.out, rfl, Turn.pre (Below.refl _ _).drew TT.out⟩
set_option maxRecDepth 100000 in
set_option maxHeartbeats 1600000 in
theorem lCut_down {w : World} {gl : Nat} {d : Dk} (i : Nat) {p : Pt} (h : (lgItem gl d i).P w) (hn : d.ps.length ≤ 16) (hi0 : d.ps[i]? = some p) (hd0 : 0 ≤ p.done) (hd1 : p.done ≤ 1000000000000000000) (ha : d.armed = true) (hdn : p.fd ≤ p.done) {k : Nat} :
    Calls Try.prog 52 #[.pointer (some ⟨gl, 0, none⟩), .int .i64 (p.a.base + k)] w fun e w' => e = .returned (.int .i64 80) ∧ Below w.heap.size w w' := by
  have y0 : w.drew.cell? ⟨gl, 0, none⟩ = some (.pointer (some ⟨d.g, 0, none⟩)) := by have := (lg_blk h).cell 0; simpa [logCells] using this
  have y1 : w.drew.cell? ⟨gl, 1, none⟩ = some (.int .i64 i) := by have := (lg_blk h).cell 1; simpa [logCells] using this
  have H := Lib.hid (Item.go h (Below.refl _ _).drew)
  have HL := Lib.hid (show gl < w.drew.heap.size from (lg_blk h).lt)
  have hx := dCut_down (k := k) (lg_disk H.out) hn i hi0 hd0 hd1 ha hdn
  have HX := Lib.hid hx
  clear hx h hi0 ha
  go_enter Try.func52, Try.ntmps52
  go_upto_region 3 with fail
  go_region_held3 (fun w' => w'.cell? ⟨gl, 0, none⟩ = some (.pointer (some ⟨d.g, 0, none⟩)) ∧ w'.cell? ⟨gl, 1, none⟩ = some (.int .i64 i)) (first | (with_reducible exact ⟨y0, y1⟩) | (with_reducible exact ⟨z0, z1⟩) | go_keep) ((go_at_call 89; refine HX.out.mono ?_; rintro e w2 ⟨rfl, hb⟩; have HB := Lib.hid hb; have z0 := (hb.cell (p := ⟨gl, 0, none⟩) HL.out).trans y0; have z1 := (hb.cell (p := ⟨gl, 1, none⟩) HL.out).trans y1; clear hb))
  go_wp2
  go_ret
  exact ⟨rfl, ((Below.refl w.heap.size w).drew).trans HB.out⟩
set_option maxRecDepth 100000 in
set_option maxHeartbeats 1600000 in
theorem lTrim_any {w : World} {gl : Nat} {d : Dk} (i : Nat) {p : Pt} (h : (lgItem gl d i).P w) (hn : d.ps.length ≤ 16) (hi0 : d.ps[i]? = some p) (hd0 : 0 ≤ p.done) (hd1 : p.done ≤ 1000000000000000000) (hgo : d.armed = true → p.done < p.fd) {k : Nat} (hk : k ≤ p.a.safe) (hs : p.a.safe ≤ p.a.l.length) (hb0 : 0 ≤ p.a.base) (hb1 : p.a.base ≤ 4611686018427387904) (hl : p.a.l.length ≤ 140737488355328) :
    Calls Try.prog 51 #[.pointer (some ⟨gl, 0, none⟩), .int .i64 (p.a.base + k)] w (LogPost gl d i p w (fun a' => ∃ A' c', a' = p.a.trim k A' c')) := by
  have y0 : w.drew.cell? ⟨gl, 0, none⟩ = some (.pointer (some ⟨d.g, 0, none⟩)) := by have := (lg_blk h).cell 0; simpa [logCells] using this
  have y1 : w.drew.cell? ⟨gl, 1, none⟩ = some (.int .i64 i) := by have := (lg_blk h).cell 1; simpa [logCells] using this
  have H := Lib.hid (Item.go h (Below.refl _ _).drew)
  have hx := dTrim_any (lg_disk H.out) hn i hi0 hd0 hd1 hgo hk hs hb0 hb1 hl
  have HX := Lib.hid hx
  clear hx h hi0 hgo
  go_enter Try.func51, Try.ntmps51
  go_upto_region 3 with fail
  go_region_held3 (fun w' => w'.cell? ⟨gl, 0, none⟩ = some (.pointer (some ⟨d.g, 0, none⟩)) ∧ w'.cell? ⟨gl, 1, none⟩ = some (.int .i64 i)) (first | (with_reducible exact ⟨y0, y1⟩) | (with_reducible exact ⟨z0, z1⟩) | go_keep) ((go_at_call 88; refine HX.out.mono ?_; rintro e w2 ⟨b', hR, hg, rfl, t⟩; have TT := Lib.hid (lg_turn H.out t rfl); have z0 : w2.cell? ⟨gl, 0, none⟩ = some (.pointer (some ⟨d.g, 0, none⟩)) := (by have := (lg_blk TT.out.p).cell 0; simpa [logCells, Dk.put] using this); have z1 : w2.cell? ⟨gl, 1, none⟩ = some (.int .i64 i) := (by have := (lg_blk TT.out.p).cell 1; simpa [logCells] using this); have HR := Lib.hid hR; have HG := Lib.hid hg; clear hR hg t))
  go_wp2
  go_ret
  exact ⟨b', HR.out, HG.out, rfl, Turn.pre (Below.refl _ _).drew TT.out⟩
set_option maxRecDepth 100000 in
set_option maxHeartbeats 1600000 in
theorem lTrim_down {w : World} {gl : Nat} {d : Dk} (i : Nat) {p : Pt} (h : (lgItem gl d i).P w) (hn : d.ps.length ≤ 16) (hi0 : d.ps[i]? = some p) (hd0 : 0 ≤ p.done) (hd1 : p.done ≤ 1000000000000000000) (ha : d.armed = true) (hdn : p.fd ≤ p.done) {k : Nat} :
    Calls Try.prog 51 #[.pointer (some ⟨gl, 0, none⟩), .int .i64 (p.a.base + k)] w fun e w' => e = .returned (.int .i64 80) ∧ Below w.heap.size w w' := by
  have y0 : w.drew.cell? ⟨gl, 0, none⟩ = some (.pointer (some ⟨d.g, 0, none⟩)) := by have := (lg_blk h).cell 0; simpa [logCells] using this
  have y1 : w.drew.cell? ⟨gl, 1, none⟩ = some (.int .i64 i) := by have := (lg_blk h).cell 1; simpa [logCells] using this
  have H := Lib.hid (Item.go h (Below.refl _ _).drew)
  have HL := Lib.hid (show gl < w.drew.heap.size from (lg_blk h).lt)
  have hx := dTrim_down (k := k) (lg_disk H.out) hn i hi0 hd0 hd1 ha hdn
  have HX := Lib.hid hx
  clear hx h hi0 ha
  go_enter Try.func51, Try.ntmps51
  go_upto_region 3 with fail
  go_region_held3 (fun w' => w'.cell? ⟨gl, 0, none⟩ = some (.pointer (some ⟨d.g, 0, none⟩)) ∧ w'.cell? ⟨gl, 1, none⟩ = some (.int .i64 i)) (first | (with_reducible exact ⟨y0, y1⟩) | (with_reducible exact ⟨z0, z1⟩) | go_keep) ((go_at_call 88; refine HX.out.mono ?_; rintro e w2 ⟨rfl, hb⟩; have HB := Lib.hid hb; have z0 := (hb.cell (p := ⟨gl, 0, none⟩) HL.out).trans y0; have z1 := (hb.cell (p := ⟨gl, 1, none⟩) HL.out).trans y1; clear hb))
  go_wp2
  go_ret
  exact ⟨rfl, ((Below.refl w.heap.size w).drew).trans HB.out⟩
set_option maxRecDepth 100000 in
set_option maxHeartbeats 1600000 in
theorem lBounds_any {w : World} {gl : Nat} {d : Dk} (i : Nat) {p : Pt} (h : (lgItem gl d i).P w) (hn : d.ps.length ≤ 16) (hi0 : d.ps[i]? = some p) (hb0 : 0 ≤ p.a.base) (hb1 : p.a.base ≤ 4611686018427387904) (hl : p.a.l.length ≤ 140737488355328) (hs : p.a.safe ≤ p.a.l.length) :
    Calls Try.prog 48 #[.pointer (some ⟨gl, 0, none⟩)] w fun e w' => e = .returned (.tuple #[.int .i64 p.a.base, .int .i64 (p.a.base + p.a.safe), .int .i64 (p.a.base + p.a.l.length)]) ∧ Below w.heap.size w w' := by
  have y0 : w.drew.cell? ⟨gl, 0, none⟩ = some (.pointer (some ⟨d.g, 0, none⟩)) := by have := (lg_blk h).cell 0; simpa [logCells] using this
  have y1 : w.drew.cell? ⟨gl, 1, none⟩ = some (.int .i64 i) := by have := (lg_blk h).cell 1; simpa [logCells] using this
  have H := Lib.hid (Item.go h (Below.refl _ _).drew)
  have HL := Lib.hid (show gl < w.drew.heap.size from (lg_blk h).lt)
  have hx := dBounds_any (lg_disk H.out) hn i hi0 hb0 hb1 hl hs
  have HX := Lib.hid hx
  clear hx h hi0
  go_enter Try.func48, Try.ntmps48
  go_upto_region 3 with fail
  go_region_held3 (fun w' => w'.cell? ⟨gl, 0, none⟩ = some (.pointer (some ⟨d.g, 0, none⟩)) ∧ w'.cell? ⟨gl, 1, none⟩ = some (.int .i64 i)) (first | (with_reducible exact ⟨y0, y1⟩) | (with_reducible exact ⟨z0, z1⟩) | go_keep) ((go_at_call 77; refine HX.out.mono ?_; rintro e w2 ⟨rfl, hb⟩; have HB := Lib.hid hb; have z0 := (hb.cell (p := ⟨gl, 0, none⟩) HL.out).trans y0; have z1 := (hb.cell (p := ⟨gl, 1, none⟩) HL.out).trans y1; clear hb))
  go_wp2
  go_ret3
  exact ⟨rfl, ((Below.refl w.heap.size w).drew).trans HB.out⟩
end Go.Proofs.Ytnnladfndmdapaa
/- Entries and versions as arguments: how they lie in memory. -/
namespace Go.Proofs.Ytnnladfndmdapaa
open Go.RowKit

def kEn : Kd En := kAs (kPair (kInt .i64) (kPair (kInt .i64) (kPair (kInt .i64) (kPair kStr (kPair kBytes kBool))))) (fun s => (s.kind, s.stamp, s.count, s.key, s.value, s.dead))
set_option maxRecDepth 100000 in
theorem opens_en : Opens kEn 25 :=
  opens_as (opens_struct (K := kPair (kInt .i64) (kPair (kInt .i64) (kPair (kInt .i64) (kPair kStr (kPair kBytes kBool))))) (by kernel_rfl) Try.underlying25
    (opensF_cons (opens_int (by kernel_rfl) Try.underlying3) rfl (opensF_cons (opens_int (by kernel_rfl) Try.underlying3) rfl (opensF_cons (opens_int (by kernel_rfl) Try.underlying3) rfl
      (opensF_cons (opens_str (by kernel_rfl) Try.underlying9) rfl (opensF_cons (opens_bytes (T := 23) (E := 5) (by kernel_rfl) Try.underlying23 Try.underlying5 (by kernel_rfl) (by kernel_rfl)) rfl
        (opensF_one (opens_bool (by kernel_rfl) Try.underlying4) rfl)))))))
    (fun s : En => (s.kind, s.stamp, s.count, s.key, s.value, s.dead)) (fun a => ⟨a.1, a.2.1, a.2.2.1, a.2.2.2.1, a.2.2.2.2.1, a.2.2.2.2.2⟩) (fun _ => rfl)
def kVn : Kd Vn := kAs (kPair kStr (kPair (kInt .i64) (kPair kBytes kBool))) (fun s => (s.key, s.stamp, s.value, s.dead))
set_option maxRecDepth 100000 in
theorem opens_vn : Opens kVn 43 :=
  opens_as (opens_struct (K := kPair kStr (kPair (kInt .i64) (kPair kBytes kBool))) (by kernel_rfl) Try.underlying43
    (opensF_cons (opens_str (by kernel_rfl) Try.underlying9) rfl (opensF_cons (opens_int (by kernel_rfl) Try.underlying3) rfl
      (opensF_cons (opens_bytes (T := 23) (E := 5) (by kernel_rfl) Try.underlying23 Try.underlying5 (by kernel_rfl) (by kernel_rfl)) rfl
        (opensF_one (opens_bool (by kernel_rfl) Try.underlying4) rfl)))))
    (fun s : Vn => (s.key, s.stamp, s.value, s.dead)) (fun a => ⟨a.1, a.2.1, a.2.2.1, a.2.2.2⟩) (fun _ => rfl)
/-- The numbers of an entry are ints. -/
def En.ints (x : En) : Prop := (-9223372036854775808 ≤ x.kind ∧ x.kind ≤ 9223372036854775807) ∧ (-9223372036854775808 ≤ x.stamp ∧ x.stamp ≤ 9223372036854775807) ∧ (-9223372036854775808 ≤ x.count ∧ x.count ≤ 9223372036854775807)
def Vn.ints (x : Vn) : Prop := -9223372036854775808 ≤ x.stamp ∧ x.stamp ≤ 9223372036854775807
theorem en_R {w : World} {B : Nat} {t : En} {cs : List Value} (h : kEn.R w B t cs) : ∃ A' c', cs = (t.cells A' c').toList ∧ t.ints ∧ BReads w B A' t.value ∧ t.value.length ≤ c' := by
  obtain ⟨c1, c2, rfl, ⟨rfl, hk⟩, c3, c4, rfl, ⟨rfl, hs⟩, c5, c6, rfl, ⟨rfl, hn⟩, c7, c8, rfl, rfl, c9, c10, rfl, ⟨A', c', rfl, hc, hp⟩, rfl⟩ := h
  have hk' : -9223372036854775808 ≤ t.kind ∧ t.kind ≤ 9223372036854775807 := by simpa [Lit.wf, IntKind.min, IntKind.max, IntKind.signed, IntKind.bits] using hk
  have hs' : -9223372036854775808 ≤ t.stamp ∧ t.stamp ≤ 9223372036854775807 := by simpa [Lit.wf, IntKind.min, IntKind.max, IntKind.signed, IntKind.bits] using hs
  have hn' : -9223372036854775808 ≤ t.count ∧ t.count ≤ 9223372036854775807 := by simpa [Lit.wf, IntKind.min, IntKind.max, IntKind.signed, IntKind.bits] using hn
  exact ⟨A', c', rfl, ⟨hk', hs', hn'⟩, hp, hc⟩
theorem en_open {w : World} {B : Nat} {t : En} {cs : Array Value} (h : kEn.R w B t (Value.agg cs).cells.toList) : ∃ A' c', cs = t.cells A' c' ∧ t.ints ∧ BReads w B A' t.value ∧ t.value.length ≤ c' := by
  obtain ⟨A', c', e, h1, h2, h3⟩ := en_R h
  exact ⟨A', c', Array.ext' e, h1, h2, h3⟩
theorem vn_R {w : World} {B : Nat} {t : Vn} {cs : List Value} (h : kVn.R w B t cs) : ∃ A' c', cs = (t.cells A' c').toList ∧ t.ints ∧ BReads w B A' t.value ∧ t.value.length ≤ c' := by
  obtain ⟨c1, c2, rfl, rfl, c3, c4, rfl, ⟨rfl, hs⟩, c5, c6, rfl, ⟨A', c', rfl, hc, hp⟩, rfl⟩ := h
  have hs' : -9223372036854775808 ≤ t.stamp ∧ t.stamp ≤ 9223372036854775807 := by simpa [Lit.wf, IntKind.min, IntKind.max, IntKind.signed, IntKind.bits] using hs
  exact ⟨A', c', rfl, hs', hp, hc⟩
theorem vn_open {w : World} {B : Nat} {t : Vn} {cs : Array Value} (h : kVn.R w B t (Value.agg cs).cells.toList) : ∃ A' c', cs = t.cells A' c' ∧ t.ints ∧ BReads w B A' t.value ∧ t.value.length ≤ c' := by
  obtain ⟨A', c', e, h1, h2, h3⟩ := vn_R h
  exact ⟨A', c', Array.ext' e, h1, h2, h3⟩
theorem en_fits {t : En} (h : kEn.fits t) : t.key.size ≤ 140737488355328 ∧ t.value.length ≤ 140737488355328 := by
  have h1 : t.key.size ≤ reachBytes := h.2.2.2.1
  have h2 : t.value.length ≤ reachBytes := h.2.2.2.2.1
  unfold reachBytes at h1 h2
  exact ⟨by omega, by omega⟩
theorem vn_fits {t : Vn} (h : kVn.fits t) : t.key.size ≤ 140737488355328 ∧ t.value.length ≤ 140737488355328 := by
  have h1 : t.key.size ≤ reachBytes := h.1
  have h2 : t.value.length ≤ reachBytes := h.2.2.1
  unfold reachBytes at h1 h2
  exact ⟨by omega, by omega⟩
theorem en_bulk (t : En) : t.key.size + t.value.length ≤ kEn.bulk t := by
  show _ ≤ 1 + (1 + (1 + ((t.key.size + 1) + ((t.value.length + 1) + 1)))); omega
theorem vn_bulk (t : Vn) : t.key.size + t.value.length ≤ kVn.bulk t := by
  show _ ≤ (t.key.size + 1) + (1 + ((t.value.length + 1) + 1)); omega
end Go.Proofs.Ytnnladfndmdapaa
/- Logs: Write, by contract. -/
namespace Go.Proofs.Ytnnladfndmdapaa
open Go.RowKit

theorem en_at {w : World} {B : Nat} {A : Option Addr} {l : List En} (h : kEn.Sl w B A l) {i : Nat} (hi : i < l.length) :
    ∃ b off A' c', A = some ⟨b, off, none⟩ ∧ b < B ∧ (l[i]).ints ∧ w.cell? ⟨b, off + i * 6, none⟩ = some (.int .i64 (l[i]).kind) ∧ w.cell? ⟨b, off + i * 6 + 1, none⟩ = some (.int .i64 (l[i]).stamp) ∧
      w.cell? ⟨b, off + i * 6 + 2, none⟩ = some (.int .i64 (l[i]).count) ∧ w.cell? ⟨b, off + i * 6 + 3, none⟩ = some (.string (l[i]).key) ∧ w.cell? ⟨b, off + i * 6 + 4, none⟩ = some (.slice A' (l[i]).value.length c') ∧
      w.cell? ⟨b, off + i * 6 + 5, none⟩ = some (.bool (l[i]).dead) ∧ BReads w B A' (l[i]).value := by
  obtain ⟨b, off, hA, hb, hr⟩ := h (by omega)
  obtain ⟨cs, hR, hc⟩ := hr i _ (List.getElem?_eq_getElem hi)
  obtain ⟨A', c', rfl, h1, h2, _⟩ := en_R hR
  exact ⟨b, off, A', c', hA, hb, h1, hc 0 _ rfl, hc 1 _ rfl, hc 2 _ rfl, hc 3 _ rfl, hc 4 _ rfl, hc 5 _ rfl, h2⟩
/-- What holds in every world in which the blocks outside of S are as they were. -/
def Stays (S : Nat → Prop) (w : World) (Q : World → Prop) : Prop := ∀ w' : World, (∀ k, k < w.heap.size → ¬ S k → w'.heap[k]? = w.heap[k]?) → Q w'
theorem Stays.at_ {S : Nat → Prop} {w w' : World} {Q : World → Prop} (h : Stays S w Q) (hk : Keeps S w w') : Q w' := h w' fun k hlt hn => hk.block k hlt hn
theorem Stays.self {S : Nat → Prop} {w : World} {Q : World → Prop} (h : Stays S w Q) : Q w := h w fun _ _ _ => rfl
/-- The bytes of entries, one frame behind the other. -/
def framesF (es : List En) : List UInt8 := (es.map fun e => frameF e.enc).flatten
theorem framesF_snoc {es : List En} {K : Nat} (h : K < es.length) : framesF (es.take (K + 1)) = framesF (es.take K) ++ frameF (es[K]).enc := by
  unfold framesF
  rw [List.take_succ_eq_append_getElem h, List.map_append, List.flatten_append]; simp
theorem framesF_len {es : List En} (h : ∀ e ∈ es, e.may) : (framesF es).length ≤ 5009 * es.length := by
  induction es with
  | nil => simp [framesF]
  | cons x r ih =>
    have h1 := ih (fun e he => h e (by simp [he]))
    have h2 := En.enc_len (h x (by simp))
    have e : framesF (x :: r) = frameF x.enc ++ framesF r := rfl
    rw [e, List.length_append, frameF_len, List.length_cons]; omega
/-- What a Write has come to: so many entries are written; why no more were. -/
def WritePost (gl : Nat) (d : Dk) (i : Nat) (p : Pt) (es : List En) (w : World) (e : Ending) (w' : World) : Prop :=
  ∃ (K : Nat) (A : Option Addr) (c : Nat) (m : Int), K ≤ es.length ∧ e = .returned (.int .i64 m) ∧ (∀ x ∈ es.take K, x.may) ∧ (∀ j : Nat, j < K → d.armed = true → p.done + j < p.fd) ∧
    (m = 0 ∧ K = es.length ∨ (m = 100 ∧ ∃ h : K < es.length, ¬ (es[K]).may) ∨ (m = 80 ∧ K < es.length ∧ d.armed = true ∧ p.fd ≤ p.done + K)) ∧
    Turn (lgItem gl d i) w (lgItem gl (d.put i { p with a := { p.a with A := A, c := c, l := p.a.l ++ framesF (es.take K) }, done := p.done + K }) i) w'
theorem put_same {d : Dk} {i : Nat} {p : Pt} (h : d.ps[i]? = some p) : d.put i p = d := by
  obtain ⟨hlt, he⟩ := List.getElem?_eq_some_iff.1 h
  unfold Dk.put
  rw [← he, List.set_getElem_self]
set_option maxRecDepth 100000 in
set_option maxHeartbeats 3200000 in
theorem lWrite_any {w : World} {gl : Nat} {d : Dk} (i : Nat) {p : Pt} (h : (lgItem gl d i).P w) (hn : d.ps.length ≤ 16) (hi0 : d.ps[i]? = some p) (hd0 : 0 ≤ p.done) (hd1 : p.done ≤ 100000000000000000)
    {A : Option Addr} {c : Nat} {es : List En} (hS : Stays (lgItem gl d i).own w (fun w' => kEn.Sl w' w.heap.size A es)) (hks : ∀ e ∈ es, e.key.size ≤ 140737488355328 ∧ e.value.length ≤ 140737488355328)
    (htot : p.a.l.length + 5009 * es.length ≤ 140737488355328) :
    Calls Try.prog 43 #[.pointer (some ⟨gl, 0, none⟩), .slice A es.length c] w (WritePost gl d i p es w) := by
  have H := Lib.hid h
  have HI := Lib.hid hi0
  have HS := Lib.hid hS
  have HKS := Lib.hid hks
  have HT0 := Lib.hid (show Turn (lgItem gl d i) w (lgItem gl (d.put i { p with a := { p.a with A := p.a.A, c := p.a.c, l := p.a.l ++ framesF (es.take 0) }, done := p.done + (0 : Nat) }) i) w from by
    have e : ({ p with a := { p.a with A := p.a.A, c := p.a.c, l := p.a.l ++ framesF (es.take 0) }, done := p.done + (0 : Nat) } : Pt) = p := by
      obtain ⟨a, fd, fk, ft, dn⟩ := p
      obtain ⟨g, A, c, b, l, s⟩ := a
      simp [framesF]
    rw [e, put_same hi0]
    exact Turn.refl h)
  have heslen : es.length ≤ 100000000000000 := by omega
  clear h hi0 hS hks
  go_enter Try.func43, Try.ntmps43
  go_wp2
  go_loopw [15] (fun t wr => ∃ (K : Nat) (A' : Option Addr) (c' : Nat), t = .int .i64 K ∧ K ≤ es.length ∧ Hid (∀ x ∈ es.take K, x.may) ∧ Hid (∀ j : Nat, j < K → d.armed = true → p.done + j < p.fd) ∧
    Hid (Turn (lgItem gl d i) w (lgItem gl (d.put i { p with a := { p.a with A := A', c := c', l := p.a.l ++ framesF (es.take K) }, done := p.done + K }) i) wr)) (fun t _ => es.length - (intOf t).toNat)
  case atStart => exact ⟨0, _, _, rfl, by omega, Lib.hid (fun x hx => by simp at hx), Lib.hid (fun j hj => by omega), HT0⟩
  case round =>
    obtain ⟨K, A', c', rfl, hK, hM, hD, hT⟩ := hrel
    clear HT0
    by_cases hlt : (K : Int) < (es.length : Int)
    · have hKN : K < es.length := by omega
      obtain ⟨bb, off, Av, cv, rfl, hbb, hints, s0, s1, s2, s3, s4, s5, hval⟩ := en_at (HS.out.at_ hT.out.k) hKN
      have hbr : bb < wr.heap.size := Nat.lt_of_lt_of_le hbb hT.out.k.size
      have hks := HKS.out _ (List.getElem_mem hKN)
      have HX := Lib.hid (framesF_snoc hKN)
      have HMX : Hid ((es[K]).may → ∀ x ∈ es.take (K + 1), x.may) := Lib.hid (fun hm x hx => by
        rw [List.take_succ_eq_append_getElem hKN] at hx
        rcases List.mem_append.1 hx with h | h
        · exact hM.out x h
        · simp only [List.mem_cons, List.not_mem_nil, or_false] at h; subst h; exact hm)
      have HNO : Hid (¬ (es[K]).may → ∃ h : K < es.length, ¬ (es[K]).may) := Lib.hid (fun h => ⟨hKN, h⟩)
      obtain ⟨x, hx⟩ : ∃ x, x = es[K] := ⟨_, rfl⟩
      rw [← hx] at s0 s1 s2 s3 s4 s5 hval hks HX HMX HNO
      obtain ⟨k, s, n, key, v, dd⟩ := x
      simp only at s0 s1 s2 s3 s4 s5 hval hks
      have HXX := Lib.hid hx
      have HV := Lib.hid (hval.more hT.out.k.size)
      clear hx hval hints hbb
      have BA := Lib.hid ((Below.refl wr.heap.size wr).alloc (Nat.le_refl _) (.cells #[.int .i64 k, .int .i64 s, .int .i64 n, .string key, .slice Av v.length cv, .bool dd] 25))
      have hKi : K + 1 ≤ es.length := by omega
      go_wp2_with fail
      obtain ⟨W, hW⟩ : ∃ W, W = wr.alloc (.cells #[.int .i64 k, .int .i64 s, .int .i64 n, .string key, .slice Av v.length cv, .bool dd] 25) := ⟨_, rfl⟩
      rw [← hW] at BA ⊢
      have HVW := Lib.hid ((HV.out.below BA.out).more BA.out.size)
      clear hW s0 s1 s2 s3 s4 s5
      refine (encode_any (A := Av) (c := cv) ⟨k, s, n, key, v, dd⟩ HVW.out hks.1 hks.2).mono ?_
      rintro e w1 h
      rcases h with ⟨hm, v', rfl, ho, hb⟩ | ⟨hm, rfl, hb⟩
      · obtain ⟨X, hX⟩ : ∃ X, X = En.enc ⟨k, s, n, key, v, dd⟩ := ⟨_, rfl⟩
        have hXl := En.enc_len hm
        rw [← hX] at ho hXl HX
        obtain ⟨A1, c1, rfl, _, hr1⟩ := BOwns.slice ho
        have R1 := Lib.hid hr1
        have HMX2 := Lib.hid (HMX.out hm)
        have T1 := Lib.hid (hT.out.go (BA.out.trans (hb.mono BA.out.size)))
        clear hm hX ho hr1 hb hT BA HVW HV HMX HNO HXX
        go_wp2_with fail
        refine (make_any (c := c1) R1.out (by omega)).mono ?_
        rintro e w2 ⟨v2, rfl, ho, hb⟩
        obtain ⟨FR, hFR⟩ : ∃ F, F = frameF X := ⟨_, rfl⟩
        have hFl : FR.length ≤ 5009 := by rw [hFR, frameF_len]; omega
        rw [← hFR] at ho HX
        obtain ⟨A2, c2, rfl, _, hr2⟩ := BOwns.slice ho
        have R2 := Lib.hid (show BReads w2.drew w2.drew.heap.size A2 FR from hr2)
        have T2 := Lib.hid (T1.out.go (hb.trans ((Below.refl w2.heap.size w2).drew.mono hb.size)))
        clear hFR ho hr2 hb T1 R1
        obtain ⟨a1, ha1⟩ : ∃ a1 : Ar, a1 = { p.a with A := A', c := c', l := p.a.l ++ framesF (es.take K) } := ⟨_, rfl⟩
        rw [← ha1] at T2
        have hal : a1.l.length ≤ p.a.l.length + 5009 * K := by
          rw [ha1]; show (p.a.l ++ _).length ≤ _; rw [List.length_append]
          have := framesF_len hM.out
          rw [List.length_take] at this
          have : 5009 * min K es.length ≤ 5009 * K := Nat.mul_le_mul_left _ (Nat.min_le_left _ _)
          omega
        have HA1 := Lib.hid ha1
        have hi' := put_get (q := { p with a := a1, done := p.done + K }) HI.out
        have HI2 := Lib.hid hi'
        have y0 : w2.drew.cell? ⟨gl, 0, none⟩ = some (.pointer (some ⟨d.g, 0, none⟩)) := by have := (lg_blk T2.out.p).cell 0; simpa [logCells, Dk.put] using this
        have y1 : w2.drew.cell? ⟨gl, 1, none⟩ = some (.int .i64 i) := by have := (lg_blk T2.out.p).cell 1; simpa [logCells] using this
        have hn' : (d.put i { p with a := a1, done := p.done + K }).ps.length ≤ 16 := by unfold Dk.put; simpa using hn
        have HB2 : a1.l.length + FR.length ≤ 140737488355328 := by
          have : 5009 * (K + 1) ≤ 5009 * es.length := Nat.mul_le_mul_left _ hKi
          omega
        have hdk0 : 0 ≤ p.done + (K : Int) := by omega
        have hdk1 : p.done + (K : Int) ≤ 1000000000000000000 := by omega
        clear ha1 hi' hal
        by_cases hdn : d.armed = true ∧ p.fd ≤ p.done + K
        · have hx := dAppend_down (c := c2) (A := A2) (b := FR) (lg_disk T2.out.p) hn' i HI2.out hdk0 hdk1 hdn.1 hdn.2
          have HXD := Lib.hid hx
          have HDN := Lib.hid hdn
          have HL := Lib.hid (lg_blk T2.out.p).lt
          clear hx hdn hn'
          go_upto_region 12 with fail
          go_region_held3 (fun w' => w'.cell? ⟨gl, 0, none⟩ = some (.pointer (some ⟨d.g, 0, none⟩)) ∧ w'.cell? ⟨gl, 1, none⟩ = some (.int .i64 i)) (first | (with_reducible exact ⟨y0, y1⟩) | (with_reducible exact ⟨z0, z1⟩) | go_keep) ((go_at_call 40; refine HXD.out.mono ?_; rintro e w3 ⟨rfl, hb⟩; have HB3 := Lib.hid hb; have z0 := (hb.cell (p := ⟨gl, 0, none⟩) HL.out).trans y0; have z1 := (hb.cell (p := ⟨gl, 1, none⟩) HL.out).trans y1; clear hb))
          go_wp2
          go_ret
          refine ⟨K, A', c', 80, hK, rfl, hM.out, hD.out, .inr (.inr ⟨rfl, hKN, HDN.out.1, HDN.out.2⟩), ?_⟩
          rw [← HA1.out]
          exact T2.out.go HB3.out
        · have hgo : (d.put i { p with a := a1, done := p.done + K }).armed = true → ({ p with a := a1, done := p.done + K } : Pt).done < p.fd := fun ha => by
            have : ¬ p.fd ≤ p.done + K := fun h => hdn ⟨ha, h⟩
            show p.done + (K : Int) < p.fd
            omega
          have HDX := Lib.hid (show ∀ j : Nat, j < K + 1 → d.armed = true → p.done + j < p.fd from fun j hj ha => by
            rcases (show j < K ∨ j = K from by omega) with h | h
            · exact hD.out j h ha
            · subst h
              have : ¬ p.fd ≤ p.done + j := fun h => hdn ⟨ha, h⟩
              omega)
          have hx := dAppend_any (c := c2) (lg_disk T2.out.p) hn' i HI2.out hdk0 hdk1 hgo R2.out HB2
          have HXD := Lib.hid hx
          clear hx hdn hn' hgo hD hM
          go_upto_region 12 with fail
          go_region_held3 (fun w' => w'.cell? ⟨gl, 0, none⟩ = some (.pointer (some ⟨d.g, 0, none⟩)) ∧ w'.cell? ⟨gl, 1, none⟩ = some (.int .i64 i)) (first | (with_reducible exact ⟨y0, y1⟩) | (with_reducible exact ⟨z0, z1⟩) | go_keep) ((go_at_call 40; refine HXD.out.mono ?_; rintro e w3 ⟨b3, ⟨A3, c3, rfl⟩, hg3, rfl, t3⟩; have T3 := Lib.hid (T2.out.trans (lg_turn T2.out.p t3 rfl)); have z0 : w3.cell? ⟨gl, 0, none⟩ = some (.pointer (some ⟨d.g, 0, none⟩)) := (by have := (lg_blk T3.out.p).cell 0; simpa [logCells, Dk.put] using this); have z1 : w3.cell? ⟨gl, 1, none⟩ = some (.int .i64 i) := (by have := (lg_blk T3.out.p).cell 1; simpa [logCells] using this); clear t3 hg3))
          have HTN := Lib.hid (show Turn (lgItem gl d i) w (lgItem gl (d.put i { p with a := { p.a with A := A3, c := c3, l := p.a.l ++ framesF (es.take (K + 1)) }, done := p.done + (K + 1 : Nat) }) i) w3 from by
            have := T3.out
            rw [put_put] at this
            rw [HX.out, ← List.append_assoc]
            have e : p.done + ((K + 1 : Nat) : Int) = p.done + (K : Int) + 1 := by omega
            rw [e]
            rw [HA1.out] at this
            exact this)
          clear T3 T2 HXD z0 z1 y0 y1
          go_wp2
          exact ⟨⟨K + 1, A3, c3, by go_num, hKi, HMX2, HDX, HTN⟩, by simp [intOf]; omega⟩
      · have HB1 := Lib.hid (BA.out.trans (hb.mono BA.out.size))
        have HNM := Lib.hid (HNO.out hm)
        clear hb hm BA
        go_wp2
        go_ret
        exact ⟨K, A', c', 100, hK, rfl, hM.out, hD.out, .inr (.inl ⟨rfl, HNM.out⟩), hT.out.go HB1.out⟩
    · obtain rfl : K = es.length := by omega
      go_wp2
      go_ret
      exact ⟨es.length, A', c', 0, Nat.le_refl _, rfl, hM.out, hD.out, .inl ⟨rfl, rfl⟩, hT.out⟩
end Go.Proofs.Ytnnladfndmdapaa
