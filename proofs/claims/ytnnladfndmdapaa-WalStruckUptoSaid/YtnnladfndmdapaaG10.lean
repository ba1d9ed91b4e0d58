/- Contracts and plain laws that this claim leans on, laid together: Area1, Area2, Disk1, Disk2. -/
import Derived.Test.YtnnladfndmdapaaG03
import Derived.Test.YtnnladfndmdapaaG09
import Derived.Deep.Cut
import Derived.BigQuiet
import Derived.BigRegion
import Derived.Deep.RegionHeld3
import Derived.Deep.RegionLaw
set_option linter.all false
set_option linter.unusedVariables false
set_option linter.unusedSimpArgs false
set_option linter.unnecessarySimpa false
/- Areas: how they lie in memory; Append, Sync, Bounds, Read, Cut, Trim: by contract. -/
namespace Go.Proofs.Ytnnladfndmdapaa
open Go.RowKit

/-- An area: its block, its row's address and capacity; where it begins, its bytes, how many are safe. -/
structure Ar where
  g : Nat
  A : Option Addr
  c : Nat
  base : Int
  l : List UInt8
  safe : Nat
def Ar.v (a : Ar) : Value := .slice a.A a.l.length a.c
def Ar.cells (a : Ar) : Array Value := #[.int .i64 a.base, .slice a.A a.l.length a.c, .int .i64 a.safe]
def Ar.item (a : Ar) : Item := Item.all [Item.blk a.g 141 a.cells, Item.row a.v a.l]
section
variable {w w' : World} {a : Ar}
theorem Ar.blk (h : a.item.P w) : Blk w a.g 141 a.cells := Item.all_get h (List.mem_cons_self ..)
theorem Ar.row (h : a.item.P w) : BOwns w 0 a.v a.l := Item.all_get (x := Item.row a.v a.l) h (by simp)
theorem Ar.reads (h : a.item.P w) : BReads w w.heap.size a.A a.l := (show BOwns w 0 (.slice a.A a.l.length a.c) a.l from Ar.row h).reads
theorem Ar.cap (h : a.item.P w) : a.l.length ≤ a.c := by
  obtain ⟨A, c, e, hc, _⟩ := BOwns.slice (show BOwns w 0 (.slice a.A a.l.length a.c) a.l from Ar.row h)
  injection e with _ _ e; omega
end
/-- The area's block is written at one cell. -/
theorem Ar.turnCell {w : World} {a b : Ar} (h : a.item.P w) (i : Nat) (u : Value) (hg : b.g = a.g) (hv : b.v = a.v) (hl : b.l = a.l) (hc : b.cells = a.cells.setIfInBounds i u) : Turn a.item w b.item (w.setCell ⟨a.g, i, none⟩ u) := by
  have t := Turn.head h (Turn.cell (Ar.blk h) i u)
  unfold Ar.item
  rw [hg, hv, hl, hc]
  exact t
/-- The same row, fewer bytes. -/
theorem BOwns.less {w : World} {base n c k : Nat} {A : Option Addr} {l : List UInt8} (h : BOwns w base (.slice A n c) l) (hk : k ≤ l.length) : BOwns w base (.slice A k c) (l.take k) := by
  have hl : (l.take k).length = k := by rw [List.length_take]; omega
  refine ⟨by rw [bys_length, Nat.mul_one], ?_⟩
  rw [hl]
  rcases h.2 with ⟨h1, h2⟩ | ⟨g, cap, cur, hv, hb, hh, hn, hcm, hs, ht⟩
  · have : k = 0 := by omega
    subst this
    injection h1 with e1 e2 e3
    subst e1; subst e3
    exact .inl ⟨rfl, rfl⟩
  · injection hv with e1 e2 e3
    subst e1; subst e3
    refine .inr ⟨g, _, cur, rfl, hb, hh, by omega, hcm, hs, ?_⟩
    rw [Nat.mul_one] at ht ⊢
    have : (cur.toList.take l.length).take k = (bys l).take k := by rw [ht]
    rw [List.take_take, show min k l.length = k from by omega] at this
    rw [this]; simp [bys, List.map_take]
theorem aown_any {w : World} {B c : Nat} {A : Option Addr} {l : List UInt8} (hr : BReads w B A l) (hl : l.length ≤ 140737488355328) :
    Calls Try.prog 116 #[.slice A l.length c] w (GivesB w l) := by
  go_enter Try.func116, Try.ntmps116
  go_wp2_with (at_builtin; refine Stop.of ?_)
  refine ⟨append_bytes (BOwns.nil w _) hr.src (by simpa using hl) (Nat.le_refl _) rfl rfl rfl rfl ?_⟩
  intro v' w1 hown hg _
  go_wp2
  go_ret
  exact ⟨v', rfl, hown, below_of_nil hg⟩
theorem aNew_any {w : World} : Calls Try.prog 76 #[] w fun e w' => e = .returned (.pointer (some ⟨w.heap.size, 0, none⟩)) ∧ (Ar.item ⟨w.heap.size, none, 0, 0, [], 0⟩).P w' ∧ Below w.heap.size w w' := by
  have K := Lib.hid (Blk.new w 141 #[.int .i64 0, .slice none 0 0, .int .i64 0])
  have B := Lib.hid ((Below.refl w.heap.size w).alloc (Nat.le_refl _) (.cells #[.int .i64 0, .slice none 0 0, .int .i64 0] 141))
  go_enter Try.func76, Try.ntmps76
  go_wp2
  go_ret
  refine ⟨rfl, ⟨fun i hi => ?_, ?_⟩, B.out⟩
  · simp only [List.mem_cons, List.not_mem_nil, or_false] at hi
    rcases hi with rfl | rfl
    · exact K.out
    · exact BOwns.nil _ _
  · refine List.pairwise_cons.2 ⟨fun i hi k _ hk => ?_, List.pairwise_cons.2 ⟨fun i hi => (by cases hi), List.Pairwise.nil⟩⟩
    simp only [List.mem_cons, List.not_mem_nil, or_false] at hi
    subst hi
    cases hk
def ErrTurn (a : Ar) (w : World) (m : Int) (b : Ar) (e : Ending) (w' : World) : Prop := e = .returned (.int .i64 m) ∧ Turn a.item w b.item w'
set_option maxRecDepth 100000 in
theorem aSync_any {w : World} {a : Ar} (h : a.item.P w) : Calls Try.prog 115 #[.pointer (some ⟨a.g, 0, none⟩)] w (ErrTurn a w 0 { a with safe := a.l.length }) := by
  have T := Lib.hid (Ar.turnCell (b := { a with safe := a.l.length }) h 2 (.int .i64 a.l.length) rfl rfl rfl rfl)
  have q1 := (Ar.blk h).cell 1
  have q2 := (Ar.blk h).cell 2
  have f2 := (Ar.blk h).frozen 2
  unfold Ar.cells at q1 q2
  simp at q1 q2
  clear h
  go_enter Try.func115, Try.ntmps115
  go_wp2
  go_ret
  exact ⟨rfl, T.out⟩
set_option maxRecDepth 100000 in
theorem aBounds_any {w : World} {a : Ar} (h : a.item.P w) (hb0 : 0 ≤ a.base) (hb1 : a.base ≤ 4611686018427387904) (hl : a.l.length ≤ 140737488355328) (hs : a.safe ≤ a.l.length) :
    Calls Try.prog 103 #[.pointer (some ⟨a.g, 0, none⟩)] w fun e w' => e = .returned (.tuple #[.int .i64 a.base, .int .i64 (a.base + a.safe), .int .i64 (a.base + a.l.length)]) ∧ Below w.heap.size w w' := by
  have q0 := (Ar.blk h).cell 0
  have q1 := (Ar.blk h).cell 1
  have q2 := (Ar.blk h).cell 2
  unfold Ar.cells at q0 q1 q2
  simp at q0 q1 q2
  obtain ⟨b, hb⟩ : ∃ b, b = a.base := ⟨_, rfl⟩
  obtain ⟨n, hn⟩ : ∃ n, n = a.l.length := ⟨_, rfl⟩
  obtain ⟨s, hs'⟩ : ∃ n, n = a.safe := ⟨_, rfl⟩
  rw [← hb] at q0 hb0 hb1 ⊢
  rw [← hn] at q1 hl hs ⊢
  rw [← hs'] at q2 hs ⊢
  have hbi : b ≤ 4611686018427387904 := hb1
  clear h hb hn hs'
  go_enter Try.func103, Try.ntmps103
  go_wp2
  go_quiet (fail)
  go_wp2
  go_ret3
  exact ⟨rfl, below_drewN (Below.refl _ _) _⟩
set_option maxRecDepth 100000 in
/-- The same area with another row. -/
theorem Ar.turnRow {w w1 : World} {a : Ar} {A' : Option Addr} {c' : Nat} {l' : List UInt8} {u : Value} (h : a.item.P w) (t : Turn (Item.row a.v a.l) w (Item.row (.slice A' l'.length c') l') w1) (hu : u = .slice A' l'.length c') :
    Turn a.item w (Ar.item { a with A := A', c := c', l := l' }) (w1.setCell ⟨a.g, 1, none⟩ u) := by
  subst hu
  have t1 := Turn.second h t
  have hb : Blk w1 a.g 141 a.cells := Item.all_get t1.p (List.mem_cons_self ..)
  have t2 := Turn.head t1.p (Turn.cell hb 1 (.slice A' l'.length c'))
  exact t1.trans t2
set_option maxRecDepth 100000 in
theorem aAppend_any {w : World} {B c : Nat} {A : Option Addr} {b : List UInt8} {a : Ar} (h : a.item.P w) (hr : BReads w B A b) (hl : a.l.length + b.length ≤ 140737488355328) :
    Calls Try.prog 81 #[.pointer (some ⟨a.g, 0, none⟩), .slice A b.length c] w fun e w' => ∃ A' c', ErrTurn a w 0 { a with A := A', c := c', l := a.l ++ b } e w' := by
  have H := Lib.hid h
  have HR := Lib.hid hr
  have q1 := (Ar.blk h).cell 1
  unfold Ar.cells at q1
  simp at q1
  clear h hr
  go_enter Try.func81, Try.ntmps81
  go_wp2_with (at_builtin; refine Stop.of ?_)
  refine ⟨append_bytes (l := a.l) (m := b) (base := 0) (Ar.row H.out) HR.out.src hl (Nat.zero_le _) rfl rfl rfl rfl ?_⟩
  intro v' w1 hown hg hf
  obtain ⟨L, hL⟩ : ∃ L, L = a.l ++ b := ⟨_, rfl⟩
  rw [← hL] at hown
  obtain ⟨A', c', rfl, _, _⟩ := BOwns.slice hown
  have HL := Lib.hid hL
  clear hL
  have t := Turn.row (l := a.l) hown (Keeps.of_grown hg |>.mono (fun i hi => .inl hi)) (by
    rcases hf with hf | hf
    · exact .inl hf
    · exact .inr (fun k hk => by rw [hf] at hk; injection hk with hk; omega))
  have T2 := Lib.hid (Ar.turnRow H.out t rfl)
  have t1 := Turn.second H.out t
  have hb : Blk w1 a.g 141 a.cells := Item.all_get t1.p (List.mem_cons_self ..)
  have f1 := hb.frozen 1
  have z1 := hb.cell 1
  unfold Ar.cells at z1
  simp at z1
  clear hown hg hf t t1 hb
  go_wp2
  go_ret
  exact ⟨A', c', rfl, by rw [← HL.out]; exact T2.out⟩
set_option maxRecDepth 100000 in
theorem aRead_any {w : World} {a : Ar} (h : a.item.P w) (k n : Nat) (hkn : k + n ≤ a.l.length) (hb0 : 0 ≤ a.base) (hb1 : a.base ≤ 4611686018427387904) (hl : a.l.length ≤ 140737488355328) :
    Calls Try.prog 105 #[.pointer (some ⟨a.g, 0, none⟩), .int .i64 (a.base + k), .int .i64 n] w fun e w' => ∃ A' c', e = .returned (.tuple #[.slice A' n c', .int .i64 0]) ∧ BOwns w' w.heap.size (.slice A' n c') ((a.l.drop k).take n) ∧ Below w.heap.size w w' := by
  have H := Lib.hid h
  have HR := Lib.hid (Ar.reads h)
  have hcap := Ar.cap h
  have q0 := (Ar.blk h).cell 0
  have q1 := (Ar.blk h).cell 1
  unfold Ar.cells at q0 q1
  simp at q0 q1
  obtain ⟨b, hb⟩ : ∃ b, b = a.base := ⟨_, rfl⟩
  obtain ⟨len, hn⟩ : ∃ n, n = a.l.length := ⟨_, rfl⟩
  obtain ⟨c, hc⟩ : ∃ n, n = a.c := ⟨_, rfl⟩
  rw [← hb] at q0 hb0 hb1 ⊢
  rw [← hn] at q1 hl hkn hcap
  rw [← hc] at q1 hcap
  obtain ⟨t, ht⟩ : ∃ t, t = b + (k : Int) := ⟨_, rfl⟩
  have d1 : decide ((n : Int) < 0) = false := decide_eq_false (by omega)
  have d2 : decide ((len : Int) < (n : Int)) = false := decide_eq_false (by omega)
  have d2' : decide (len < n) = false := decide_eq_false (by omega)
  have d3 : decide (t < b) = false := decide_eq_false (by omega)
  have d4 : decide (b + (len : Int) - (n : Int) < t) = false := decide_eq_false (by omega)
  have d5 : b ≤ t := by omega
  have d6 : t ≤ b + (len : Int) - (n : Int) := by omega
  have d7 : (n : Int) ≤ (len : Int) := by omega
  rw [← ht]
  have HT := Lib.hid ht
  have HLEN := Lib.hid hn
  clear h hb hn hc ht
  go_enter Try.func105, Try.ntmps105
  go_wp2
  go_quiet (fail)
  go_upto_region 5 with fail
  obtain ⟨W, hW⟩ : ∃ W, W = w.drewN nq := ⟨_, rfl⟩
  rw [← hW]
  have BD := Lib.hid (show Below w.heap.size w W.drew from by rw [hW]; exact (below_drewN (Below.refl _ _) nq).drew)
  have HG := Lib.hid (show a.g < W.drew.heap.size from Nat.lt_of_lt_of_le (Ar.blk H.out).lt BD.out.size)
  have y0 := (BD.out.cell (p := ⟨a.g, 0, none⟩) (Ar.blk H.out).lt).trans q0
  have y1 := (BD.out.cell (p := ⟨a.g, 1, none⟩) (Ar.blk H.out).lt).trans q1
  obtain ⟨P, hP⟩ : ∃ P, P = (a.l.drop k).take n := ⟨_, rfl⟩
  have HPL := Lib.hid (show P.length = n from by rw [hP, List.length_take, List.length_drop, ← HLEN.out]; omega)
  have HPE := Lib.hid hP
  have hrange : k + n ≤ a.l.length := by rw [← HLEN.out]; exact hkn
  have hcapl : a.l.length ≤ c := by rw [← HLEN.out]; exact hcap
  have Esub : t - b = (k : Int) := by have := HT.out; omega
  have hkl : (k : Int) ≤ (len : Int) := by omega
  have HEw := Lib.hid (show IntKind.i64.wrap (k : Int) = (k : Int) from by rw [IntKind.wrap_i64]; omega)
  have hkc : (k : Int) ≤ (c : Int) := by omega
  have hnc : (n : Int) ≤ ((c - k : Nat) : Int) := by omega
  have hnc2 : (n : Int) ≤ (c : Int) - (k : Int) := by omega
  have hklN : k ≤ len := by omega
  have hkcN : k ≤ c := by omega
  have hncN : n ≤ c - k := by omega
  have hnlN : n ≤ len - k := by omega
  clear hW q0 q1 d1 d2 d2' d3 d4 d5 d6 d7
  by_cases hck : c = k
  · have HS := Lib.hid (reads_sub_eq HR.out hrange hcapl hck)
    rw [← hP] at HS
    subst hck
    clear hP
    obtain rfl : n = 0 := by omega
    have hx := aown_any (c := 0) (HS.out.below BD.out) (by rw [HPL.out]; omega)
    rw [HPL.out] at hx
    have HXX := Lib.hid hx
    clear hx
    have Ew := HEw.out
    go_region_held3 (fun w' => w'.cell? ⟨a.g, 0, none⟩ = some (.int .i64 b) ∧ w'.cell? ⟨a.g, 1, none⟩ = some (.slice a.A len c)) (first | (with_reducible exact ⟨y0, y1⟩) | (with_reducible exact ⟨z0, z1⟩) | go_keep) ((go_at_call 116; refine HXX.out.mono ?_; rintro e w2 h; obtain ⟨v2, rfl, ho, hb2⟩ := h.out; have HO := Lib.hid ho; have HB := Lib.hid hb2; have z0 := (hb2.cell (p := ⟨a.g, 0, none⟩) HG.out).trans y0; have z1 := (hb2.cell (p := ⟨a.g, 1, none⟩) HG.out).trans y1; clear ho hb2))
    clear Ew
    go_wp2
    go_ret2
    obtain ⟨A', c', e', _, _⟩ := BOwns.slice HO.out
    rw [HPL.out] at e'
    refine ⟨A', c', ?_, ?_, ?_⟩
    · rw [show v2 = _ from e']; rfl
    · rw [← show v2 = _ from e', ← HPE.out]; exact owns_less HO.out BD.out.size
    · exact BD.out.trans (HB.out.mono BD.out.size)
  · have HS := Lib.hid (reads_sub_ne HR.out hrange hcapl hck)
    rw [← hP] at HS
    have hck2 : ¬ c - k = 0 := by omega
    clear hP
    have hx := aown_any (c := c - k) (HS.out.below BD.out) (by rw [HPL.out]; omega)
    rw [HPL.out] at hx
    have HXX := Lib.hid hx
    clear hx
    have Ew := HEw.out
    go_region_held3 (fun w' => w'.cell? ⟨a.g, 0, none⟩ = some (.int .i64 b) ∧ w'.cell? ⟨a.g, 1, none⟩ = some (.slice a.A len c)) (first | (with_reducible exact ⟨y0, y1⟩) | (with_reducible exact ⟨z0, z1⟩) | go_keep) ((go_at_call 116; refine HXX.out.mono ?_; rintro e w2 h; obtain ⟨v2, rfl, ho, hb2⟩ := h.out; have HO := Lib.hid ho; have HB := Lib.hid hb2; have z0 := (hb2.cell (p := ⟨a.g, 0, none⟩) HG.out).trans y0; have z1 := (hb2.cell (p := ⟨a.g, 1, none⟩) HG.out).trans y1; clear ho hb2))
    clear Ew
    go_wp2
    go_ret2
    obtain ⟨A', c', e', _, _⟩ := BOwns.slice HO.out
    rw [HPL.out] at e'
    refine ⟨A', c', ?_, ?_, ?_⟩
    · rw [show v2 = _ from e']; rfl
    · rw [← show v2 = _ from e', ← HPE.out]; exact owns_less HO.out BD.out.size
    · exact BD.out.trans (HB.out.mono BD.out.size)
end Go.Proofs.Ytnnladfndmdapaa
/- Areas: Cut, Trim, Crash: by contract. -/
namespace Go.Proofs.Ytnnladfndmdapaa
open Go.RowKit

/-- The area cut to its first bytes. -/
def Ar.cut (a : Ar) (k : Nat) : Ar := { a with l := a.l.take k, safe := min a.safe k }
set_option maxRecDepth 100000 in
set_option maxHeartbeats 1600000 in
theorem aCut_any {w : World} {a : Ar} (h : a.item.P w) (k : Nat) (hk : k ≤ a.l.length) (hs : a.safe ≤ a.l.length) (hb0 : 0 ≤ a.base) (hb1 : a.base ≤ 4611686018427387904) (hl : a.l.length ≤ 140737488355328) :
    Calls Try.prog 113 #[.pointer (some ⟨a.g, 0, none⟩), .int .i64 (a.base + k)] w (ErrTurn a w 0 (a.cut k)) := by
  have H := Lib.hid h
  have hcap := Ar.cap h
  have q0 := (Ar.blk h).cell 0
  have q1 := (Ar.blk h).cell 1
  unfold Ar.cells at q0 q1
  simp at q0 q1
  obtain ⟨b, hb⟩ : ∃ b, b = a.base := ⟨_, rfl⟩
  obtain ⟨len, hn⟩ : ∃ n, n = a.l.length := ⟨_, rfl⟩
  obtain ⟨c, hc⟩ : ∃ n, n = a.c := ⟨_, rfl⟩
  obtain ⟨s, hsf⟩ : ∃ n, n = a.safe := ⟨_, rfl⟩
  rw [← hb] at q0 hb0 hb1 ⊢
  rw [← hn] at q1 hl hk hcap hs
  rw [← hc] at q1 hcap
  rw [← hsf] at hs
  obtain ⟨t, ht⟩ : ∃ t, t = b + (k : Int) := ⟨_, rfl⟩
  have d3 : decide (t < b) = false := decide_eq_false (by omega)
  have d4 : decide (b + (len : Int) < t) = false := decide_eq_false (by omega)
  have d5 : b ≤ t := by omega
  have d6 : t ≤ b + (len : Int) := by omega
  rw [← ht]
  have HT := Lib.hid ht
  have HLEN := Lib.hid hn
  have HBASE := Lib.hid hb
  have HC := Lib.hid hc
  have HSF := Lib.hid hsf
  clear h hb hn hc ht hsf
  go_enter Try.func113, Try.ntmps113
  go_wp2
  go_quiet (fail)
  go_upto_region 5 with fail
  obtain ⟨W, hW⟩ : ∃ W, W = w.drewN nq := ⟨_, rfl⟩
  rw [← hW]
  have BD := Lib.hid (show Below w.heap.size w W from by rw [hW]; exact below_drewN (Below.refl _ _) nq)
  have H1 := Lib.hid (Item.go H.out BD.out)
  have r0 := (Ar.blk H1.out).cell 0
  have r1 := (Ar.blk H1.out).cell 1
  have f1 := (Ar.blk H1.out).frozen 1
  unfold Ar.cells at r0 r1
  simp at r0 r1
  rw [← HBASE.out] at r0
  rw [← HLEN.out, ← HC.out] at r1
  have Esub : t - b = (k : Int) := by have := HT.out; omega
  have hkl : (k : Int) ≤ (len : Int) := by omega
  have hkc : (k : Int) ≤ (c : Int) := by omega
  have HEw := Lib.hid (show IntKind.i64.wrap (k : Int) = (k : Int) from by rw [IntKind.wrap_i64]; omega)
  clear hW q0 q1 d3 d4 d5 d6
  have Ew := HEw.out
  go_region
  clear Ew
  have hkk : (a.l.take k).length = k := by rw [List.length_take, ← HLEN.out]; omega
  have T1 := Ar.turnRow (a := a) (w := W) (w1 := W) (A' := a.A) (c' := c) (l' := a.l.take k) (u := .slice a.A k c) H1.out
    (Turn.row (l := a.l) (base := 0) (by
      have hr2 : BOwns W 0 (.slice a.A a.l.length a.c) a.l := Ar.row H1.out
      have := BOwns.less hr2 (k := k) (by rw [← HLEN.out]; exact hk)
      rw [← HC.out] at this
      rwa [hkk]) (Keeps.refl _ _) (.inl (by unfold Ar.v; cases a.A <;> rfl)))
    (by rw [hkk])
  have T2 := Lib.hid (Turn.pre BD.out (T1.go (Below.refl _ _).drew))
  have hA1 : (Ar.item { a with c := c, l := a.l.take k }).P (W.setCell ⟨a.g, 1, none⟩ (.slice a.A k c)).drew := (T1.go (Below.refl _ _).drew).p
  obtain ⟨W2, hW2⟩ : ∃ W2, W2 = (W.setCell ⟨a.g, 1, none⟩ (.slice a.A k c)).drew := ⟨_, rfl⟩
  rw [← hW2] at T2 hA1
  have q1 := (Ar.blk hA1).cell 1
  have q2 := (Ar.blk hA1).cell 2
  have f2 := (Ar.blk hA1).frozen 2
  unfold Ar.cells at q1 q2
  simp at q1 q2 f2
  have HKK := Lib.hid hkk
  rw [show min k a.l.length = k from by rw [← HLEN.out]; omega] at q1
  rw [← HSF.out] at q2
  have HA1 := Lib.hid hA1
  have HW2 := Lib.hid hW2.symm
  clear T1 hkk hA1 hW2
  go_upto_region 6 with fail
  rw [HW2.out]
  clear r0 r1 f1 HW2
  by_cases hsk : s ≤ k
  · have hmin : min (s : Int) (k : Int) = (s : Int) := by omega
    have T3 := Lib.hid (T2.out.trans ((Ar.turnCell (b := a.cut k) HA1.out 2 (.int .i64 (s : Int)) rfl (by unfold Ar.v Ar.cut; rw [← HC.out]) rfl (by unfold Ar.cells Ar.cut; rw [← HC.out]; simp [← HSF.out]; omega)).go (Below.refl _ _).drew))
    clear T2 HA1
    go_region
    go_wp2
    go_ret
    exact ⟨rfl, T3.out⟩
  · have hmin : min (s : Int) (k : Int) = (k : Int) := by omega
    have T3 := Lib.hid (T2.out.trans ((Ar.turnCell (b := a.cut k) HA1.out 2 (.int .i64 (k : Int)) rfl (by unfold Ar.v Ar.cut; rw [← HC.out]) rfl (by unfold Ar.cells Ar.cut; rw [← HC.out]; simp [← HSF.out]; omega)).go (Below.refl _ _).drew))
    clear T2 HA1
    go_region
    go_wp2
    go_ret
    exact ⟨rfl, T3.out⟩
/-- The area without its first bytes. -/
def Ar.trim (a : Ar) (k : Nat) (A' : Option Addr) (c' : Nat) : Ar := { a with A := A', c := c', base := a.base + k, l := a.l.drop k, safe := a.safe - k }
theorem trim_end {W w2 : World} {a : Ar} {A' : Option Addr} {c' : Nat} {P : List UInt8} (h : a.item.P W) (ho : BOwns w2 W.heap.size (.slice A' P.length c') P) (hb : Below W.heap.size W w2) (t : Int) :
    Turn a.item W (Ar.item { a with A := A', c := c', l := P, base := t }) ((w2.setCell ⟨a.g, 1, none⟩ (.slice A' P.length c')).setCell ⟨a.g, 0, none⟩ (.int .i64 t)) := by
  have t1 := Turn.row (l := a.l) (v := a.v) ho (Keeps.of_below hb _) (.inr fun k hk => (ho.lt hk).1)
  have t2 := Ar.turnRow h t1 rfl
  exact t2.trans (Ar.turnCell (b := { a with A := A', c := c', l := P, base := t }) t2.p 0 (.int .i64 t) rfl rfl rfl (by unfold Ar.cells; simp))
set_option maxRecDepth 100000 in
set_option maxHeartbeats 1600000 in
theorem aTrim_any {w : World} {a : Ar} (h : a.item.P w) (k : Nat) (hk : k ≤ a.safe) (hs : a.safe ≤ a.l.length) (hb0 : 0 ≤ a.base) (hb1 : a.base ≤ 4611686018427387904) (hl : a.l.length ≤ 140737488355328) :
    Calls Try.prog 111 #[.pointer (some ⟨a.g, 0, none⟩), .int .i64 (a.base + k)] w fun e w' => ∃ A' c', ErrTurn a w 0 (a.trim k A' c') e w' := by
  have H := Lib.hid h
  have hcap := Ar.cap h
  have q0 := (Ar.blk h).cell 0
  have q2 := (Ar.blk h).cell 2
  unfold Ar.cells at q0 q2
  simp at q0 q2
  obtain ⟨b, hb⟩ : ∃ b, b = a.base := ⟨_, rfl⟩
  obtain ⟨len, hn⟩ : ∃ n, n = a.l.length := ⟨_, rfl⟩
  obtain ⟨c, hc⟩ : ∃ n, n = a.c := ⟨_, rfl⟩
  obtain ⟨s, hsf⟩ : ∃ n, n = a.safe := ⟨_, rfl⟩
  rw [← hb] at q0 hb0 hb1 ⊢
  rw [← hn] at hl hcap hs
  rw [← hc] at hcap
  rw [← hsf] at hs hk q2
  obtain ⟨t, ht⟩ : ∃ t, t = b + (k : Int) := ⟨_, rfl⟩
  have d3 : decide (t < b) = false := decide_eq_false (by omega)
  have d4 : decide (b + (s : Int) < t) = false := decide_eq_false (by omega)
  have d5 : b ≤ t := by omega
  have d6 : t ≤ b + (s : Int) := by omega
  rw [← ht]
  have HT := Lib.hid ht
  have HLEN := Lib.hid hn
  have HBASE := Lib.hid hb
  have HC := Lib.hid hc
  have HSF := Lib.hid hsf
  clear h hb hn hc ht hsf
  go_enter Try.func111, Try.ntmps111
  go_wp2
  go_quiet (fail)
  go_upto_region 5 with fail
  obtain ⟨W, hW⟩ : ∃ W, W = w.drewN nq := ⟨_, rfl⟩
  rw [← hW]
  have BD := Lib.hid (show Below w.heap.size w W from by rw [hW]; exact below_drewN (Below.refl _ _) nq)
  have H1 := Lib.hid (Item.go H.out BD.out)
  have r0 := (Ar.blk H1.out).cell 0
  have r2 := (Ar.blk H1.out).cell 2
  have f2 := (Ar.blk H1.out).frozen 2
  unfold Ar.cells at r0 r2
  simp at r0 r2
  rw [← HBASE.out] at r0
  rw [← HSF.out] at r2
  have Esub : t - b = (k : Int) := by have := HT.out; omega
  obtain ⟨s', hs'⟩ : ∃ s', s' = s - k := ⟨_, rfl⟩
  have Esub2 : (s : Int) - (k : Int) = (s' : Int) := by omega
  have hkl : (k : Int) ≤ (len : Int) := by omega
  have hkc : (k : Int) ≤ (c : Int) := by omega
  have HEw := Lib.hid (show IntKind.i64.wrap (k : Int) = (k : Int) from by rw [IntKind.wrap_i64]; omega)
  have HEs := Lib.hid (show IntKind.i64.wrap (s' : Int) = (s' : Int) from by rw [IntKind.wrap_i64]; omega)
  have HS' := Lib.hid hs'
  have T1 := Lib.hid (Turn.pre BD.out ((Ar.turnCell (b := { a with safe := s' }) H1.out 2 (.int .i64 (s' : Int)) rfl rfl rfl (by unfold Ar.cells; simp)).go (Below.refl _ _).drew))
  clear hW q0 q2 d3 d4 d5 d6 hs' H1
  have Ew := HEw.out
  have Es := HEs.out
  go_region
  clear Ew Es
  go_upto_region 6 with fail
  obtain ⟨W2, hW2⟩ : ∃ W2, W2 = (W.setCell ⟨a.g, 2, none⟩ (.int .i64 (s' : Int))).drew := ⟨_, rfl⟩
  rw [← hW2] at T1 ⊢
  obtain ⟨a2, ha2⟩ : ∃ a2 : Ar, a2 = { a with safe := s' } := ⟨_, rfl⟩
  rw [← ha2] at T1
  have hP2 : a2.item.P W2.drew := Item.go T1.out.p (Below.refl _ _).drew
  have HA2 := Lib.hid ha2
  have HP2 := Lib.hid hP2
  have y0 := (Ar.blk hP2).cell 0
  have y1 := (Ar.blk hP2).cell 1
  have x0 := (Ar.blk hP2).frozen 0
  have x1 := (Ar.blk hP2).frozen 1
  have HG := Lib.hid (Ar.blk hP2).lt
  rw [ha2] at y0 y1 x0 x1
  rw [ha2] at HG
  unfold Ar.cells at y0 y1
  simp only [List.getElem?_toArray, List.getElem?_cons_zero, List.getElem?_cons_succ] at y0 y1
  rw [← HBASE.out] at y0
  rw [← HLEN.out, ← HC.out] at y1
  obtain ⟨P, hP⟩ : ∃ P, P = a.l.drop k := ⟨_, rfl⟩
  have hPt : (a.l.drop k).take (len - k) = P := by rw [hP]; exact List.take_of_length_le (by rw [List.length_drop, ← HLEN.out]; omega)
  have HPL := Lib.hid (show P.length = len - k from by rw [hP, List.length_drop, ← HLEN.out])
  have HPE := Lib.hid hP
  have HRD := Lib.hid (show BReads W2.drew W2.drew.heap.size a.A a.l from by have := Ar.reads hP2; rw [ha2] at this; exact this)
  have hrange : k + (len - k) ≤ a.l.length := by rw [← HLEN.out]; omega
  have hcapl : a.l.length ≤ c := by rw [← HLEN.out]; exact hcap
  have hklN : k ≤ len := by omega
  have hkcN : k ≤ c := by omega
  clear hW2 ha2 hP2 hP f2 r0 r2
  by_cases hck : c = k
  · have HS := Lib.hid (reads_sub_eq HRD.out hrange hcapl hck)
    rw [hPt] at HS
    subst hck
    have hlc : len = c := by omega
    subst hlc
    rw [Nat.sub_self] at HPL
    have hx := aown_any (c := 0) HS.out (by rw [HPL.out]; omega)
    rw [HPL.out] at hx
    have HXX := Lib.hid hx
    clear hx
    have Ew := HEw.out
    go_region_law ((go_simp; go_at_call 116; refine HXX.out.mono ?_; rintro e w2 h; obtain ⟨v2, rfl, ho, hb2⟩ := h.out; obtain ⟨A', c', rfl, _, _⟩ := BOwns.slice ho; have HO := Lib.hid ho; have HB := Lib.hid hb2; have z0 := (hb2.cell (p := ⟨a.g, 0, none⟩) HG.out).trans y0; have z1 := (hb2.cell (p := ⟨a.g, 1, none⟩) HG.out).trans y1; have g0 := (hb2.frozen (p := ⟨a.g, 0, none⟩) HG.out).trans x0; have g1 := (hb2.frozen (p := ⟨a.g, 1, none⟩) HG.out).trans x1; clear ho hb2))
    all_goals
      clear Ew
      go_wp2
      go_ret
      refine ⟨A', c', rfl, ?_⟩
      have TT := trim_end HP2.out HO.out HB.out t
      rw [HA2.out] at TT
      have TE := T1.out.trans (Turn.pre (Below.refl _ _).drew (by rw [HA2.out]; exact TT))
      have hE : ({ ({ a with safe := s' } : Ar) with A := A', c := c', l := P, base := t } : Ar) = a.trim len A' c' := by
        unfold Ar.trim
        rw [HPE.out, HS'.out, HSF.out, HT.out, HBASE.out]
      rw [← hE]
      exact TE
  · have HS := Lib.hid (reads_sub_ne HRD.out hrange hcapl hck)
    rw [hPt] at HS
    have hck2 : ¬ c - k = 0 := by omega
    clear hPt
    have hx := aown_any (c := c - k) HS.out (by rw [HPL.out]; omega)
    rw [HPL.out] at hx
    have HXX := Lib.hid hx
    clear hx
    have Ew := HEw.out
    go_region_law ((go_simp; go_at_call 116; refine HXX.out.mono ?_; rintro e w2 h; obtain ⟨v2, rfl, ho, hb2⟩ := h.out; obtain ⟨A', c', rfl, _, _⟩ := BOwns.slice ho; have HO := Lib.hid ho; have HB := Lib.hid hb2; have z0 := (hb2.cell (p := ⟨a.g, 0, none⟩) HG.out).trans y0; have z1 := (hb2.cell (p := ⟨a.g, 1, none⟩) HG.out).trans y1; have g0 := (hb2.frozen (p := ⟨a.g, 0, none⟩) HG.out).trans x0; have g1 := (hb2.frozen (p := ⟨a.g, 1, none⟩) HG.out).trans x1; clear ho hb2))
    all_goals
      clear Ew
      go_wp2
      go_ret
      refine ⟨A', c', rfl, ?_⟩
      have TT := trim_end HP2.out HO.out HB.out t
      rw [HA2.out] at TT
      have TE := T1.out.trans (Turn.pre (Below.refl _ _).drew (by rw [HA2.out]; exact TT))
      have hE : ({ ({ a with safe := s' } : Ar) with A := A', c := c', l := P, base := t } : Ar) = a.trim k A' c' := by
        unfold Ar.trim
        rw [HPE.out, HS'.out, HSF.out, HT.out, HBASE.out]
      rw [← hE]
      exact TE
end Go.Proofs.Ytnnladfndmdapaa
/- Disks: how they lie in memory; find, Bounds, Read, Done: by contract. -/
namespace Go.Proofs.Ytnnladfndmdapaa
open Go.RowKit

/-- A part of a disk: its area, its fate, how many operations were carried out. -/
structure Pt where
  a : Ar
  fd : Int
  fk : Int
  ft : Int
  done : Int
def Pt.cells (p : Pt) : List Value := [.pointer (some ⟨p.a.g, 0, none⟩), .int .i64 p.fd, .int .i64 p.fk, .int .u8 p.ft, .int .i64 p.done]
def partCells (ps : List Pt) : Array Value := (ps.map Pt.cells).flatten.toArray
theorem flat_get {α : Type} {L : List (List α)} {n : Nat} (h : ∀ x ∈ L, x.length = n) {i j : Nat} {x : List α} (hi : L[i]? = some x) (hj : j < n) : L.flatten[i * n + j]? = x[j]? := by
  induction L generalizing i with
  | nil => cases hi
  | cons y L ih =>
    have hy := h y (by simp)
    rw [List.flatten_cons]
    cases i with
    | zero =>
      simp only [List.getElem?_cons_zero, Option.some.injEq] at hi
      subst hi
      rw [List.getElem?_append_left (by omega)]; simp
    | succ i =>
      simp only [List.getElem?_cons_succ] at hi
      rw [List.getElem?_append_right (by rw [hy]; rw [Nat.add_mul]; omega), hy, show (i + 1) * n + j - n = i * n + j from by rw [Nat.add_mul]; omega]
      exact ih (fun x hx => h x (by simp [hx])) hi
theorem flat_set {α : Type} {L : List (List α)} {n : Nat} (h : ∀ x ∈ L, x.length = n) {i j : Nat} {x : List α} (hi : L[i]? = some x) (hj : j < n) (u : α) : L.flatten.set (i * n + j) u = (L.set i (x.set j u)).flatten := by
  induction L generalizing i with
  | nil => cases hi
  | cons y L ih =>
    have hy := h y (by simp)
    cases i with
    | zero =>
      simp only [List.getElem?_cons_zero, Option.some.injEq] at hi
      subst hi
      rw [List.set_cons_zero, List.flatten_cons, List.flatten_cons, List.set_append_left _ _ (by omega)]; simp
    | succ i =>
      simp only [List.getElem?_cons_succ] at hi
      rw [List.set_cons_succ, List.flatten_cons, List.flatten_cons, List.set_append_right _ _ (by rw [hy, Nat.add_mul]; omega), hy, show (i + 1) * n + j - n = i * n + j from by rw [Nat.add_mul]; omega]
      rw [ih (fun x hx => h x (by simp [hx])) hi]
theorem pt_len (ps : List Pt) : ∀ x ∈ ps.map Pt.cells, x.length = 5 := by
  intro x hx
  obtain ⟨p, _, rfl⟩ := List.mem_map.1 hx
  rfl
theorem partCells_get {ps : List Pt} {i j : Nat} {p : Pt} (hi : ps[i]? = some p) (hj : j < 5) : (partCells ps)[i * 5 + j]? = p.cells[j]? := by
  unfold partCells
  rw [List.getElem?_toArray]
  exact flat_get (pt_len ps) (by rw [List.getElem?_map, hi]; rfl) hj
theorem partCells_set {ps : List Pt} {i j : Nat} {p q : Pt} (hi : ps[i]? = some p) (hj : j < 5) {u : Value} (hq : q.cells = p.cells.set j u) : (partCells ps).setIfInBounds (i * 5 + j) u = partCells (ps.set i q) := by
  apply Array.ext'
  unfold partCells
  rw [Array.toList_setIfInBounds]
  show (ps.map Pt.cells).flatten.set _ _ = ((ps.set i q).map Pt.cells).flatten
  rw [flat_set (pt_len ps) (x := p.cells) (by rw [List.getElem?_map, hi]; rfl) hj, List.map_set, hq]
/-- A disk. -/
structure Dk where
  g : Nat
  gp : Nat
  armed : Bool
  ps : List Pt
def Dk.pieces (d : Dk) : List Item := Item.blk d.g 111 #[.slice (some ⟨d.gp, 0, none⟩) d.ps.length d.ps.length, .bool d.armed] :: Item.blk d.gp 115 (partCells d.ps) :: d.ps.map (fun p => p.a.item)
def Dk.item (d : Dk) : Item := Item.all d.pieces
section
variable {w w' : World} {d : Dk}
theorem Dk.blk (h : d.item.P w) : Blk w d.g 111 #[.slice (some ⟨d.gp, 0, none⟩) d.ps.length d.ps.length, .bool d.armed] := Item.all_get h (List.mem_cons_self ..)
theorem Dk.parts (h : d.item.P w) : Blk w d.gp 115 (partCells d.ps) := Item.all_get h (List.mem_cons_of_mem _ (List.mem_cons_self ..))
theorem Dk.area (h : d.item.P w) {i : Nat} {p : Pt} (hi : d.ps[i]? = some p) : p.a.item.P w :=
  Item.all_get h (List.mem_cons_of_mem _ (List.mem_cons_of_mem _ (List.mem_map.2 ⟨p, List.mem_of_getElem? hi, rfl⟩)))
theorem Dk.cell (h : d.item.P w) {i : Nat} {p : Pt} (hi : d.ps[i]? = some p) {j : Nat} (hj : j < 5) : w.cell? ⟨d.gp, i * 5 + j, none⟩ = p.cells[j]? := by
  rw [(Dk.parts h).cell, partCells_get hi hj]
end
set_option maxRecDepth 100000 in
theorem find_any {w : World} {d : Dk} (h : d.item.P w) (hn : d.ps.length ≤ 16) (i : Nat) (hi : i < d.ps.length) :
    Calls Try.prog 85 #[.pointer (some ⟨d.g, 0, none⟩), .int .i64 i] w fun e w' => e = .returned (.tuple #[.pointer (some ⟨d.gp, i * 5, none⟩), .int .i64 0]) ∧ w = w' := by
  have q0 := (Dk.blk h).cell 0
  simp at q0
  obtain ⟨n, hN⟩ : ∃ n, n = d.ps.length := ⟨_, rfl⟩
  rw [← hN] at q0 hn hi
  have d1 : decide ((i : Int) < 0) = false := decide_eq_false (by omega)
  have d2 : decide (n ≤ i) = false := decide_eq_false (by omega)
  have d3 : (i : Int) < (n : Int) := by omega
  have hii : i < n := hi
  clear h hN
  go_enter Try.func85, Try.ntmps85
  go_wp2
  go_ret2
  exact ⟨rfl, rfl⟩
def Dk.put (d : Dk) (i : Nat) (q : Pt) : Dk := { d with ps := d.ps.set i q }
theorem Dk.turnArea {w w' : World} {d : Dk} {i : Nat} {p : Pt} {b : Ar} (h : d.item.P w) (hi : d.ps[i]? = some p) (t : Turn p.a.item w b.item w') (hg : b.g = p.a.g) : Turn d.item w (d.put i { p with a := b }).item w' := by
  have hx : d.pieces[i + 2]? = some p.a.item := by
    unfold Dk.pieces
    simp only [List.getElem?_cons_succ, List.getElem?_map, hi, Option.map_some]
  have := Turn.set h hx t
  have e : d.pieces.set (i + 2) b.item = (d.put i { p with a := b }).pieces := by
    have hc : partCells (d.ps.set i { p with a := b }) = partCells d.ps := by
      unfold partCells
      congr 2
      rw [List.map_set]
      obtain ⟨hlt, he⟩ := List.getElem?_eq_some_iff.1 hi
      apply List.ext_getElem
      · simp
      · intro k h1 h2
        rw [List.getElem_set]
        split
        · rename_i e; subst e; rw [List.getElem_map, he]; show _ = Pt.cells p; unfold Pt.cells; rw [← hg]
        · rfl
    unfold Dk.pieces Dk.put
    simp only [List.set_cons_succ, List.map_set, List.length_set, hc]
  rw [e] at this
  exact this
theorem Dk.turnCell {w : World} {d : Dk} {i j : Nat} {p q : Pt} (h : d.item.P w) (hi : d.ps[i]? = some p) (hj : j < 5) (u : Value) (hq : q.cells = p.cells.set j u) (ha : q.a = p.a) : Turn d.item w (d.put i q).item (w.setCell ⟨d.gp, i * 5 + j, none⟩ u) := by
  have := Turn.second h (Turn.cell (Dk.parts h) (i * 5 + j) u)
  rw [partCells_set hi hj hq] at this
  have e : (d.put i q).pieces = Item.blk d.g 111 #[.slice (some ⟨d.gp, 0, none⟩) d.ps.length d.ps.length, .bool d.armed] :: Item.blk d.gp 115 (partCells (d.ps.set i q)) :: d.ps.map (fun p => p.a.item) := by
    have hm : (d.ps.set i q).map (fun p => p.a.item) = d.ps.map (fun p => p.a.item) := by
      obtain ⟨hlt, he⟩ := List.getElem?_eq_some_iff.1 hi
      apply List.ext_getElem
      · simp
      · intro k h1 h2
        rw [List.getElem_map, List.getElem_map, List.getElem_set]
        split
        · rename_i e; subst e; rw [he, ha]
        · rfl
    unfold Dk.pieces Dk.put
    simp only [List.length_set, hm]
  unfold Dk.item
  rw [e]
  exact this
end Go.Proofs.Ytnnladfndmdapaa
/- Disks: Append, Sync, Cut, Trim, by contract (printed by a program of this claim's own). -/
namespace Go.Proofs.Ytnnladfndmdapaa
open Go.RowKit

/-- The operation was carried out: the area is another one, one operation more is done. -/
def OpPost (d : Dk) (i : Nat) (p : Pt) (w : World) (R : Ar → Prop) (e : Ending) (w' : World) : Prop :=
  ∃ b, R b ∧ b.g = p.a.g ∧ e = .returned (.int .i64 0) ∧ Turn d.item w (d.put i { p with a := b, done := p.done + 1 }).item w'
theorem put_put {d : Dk} {i : Nat} {p q : Pt} : (d.put i p).put i q = d.put i q := by unfold Dk.put; simp
theorem put_get {d : Dk} {i : Nat} {p q : Pt} (hi : d.ps[i]? = some p) : (d.put i q).ps[i]? = some q := by
  unfold Dk.put
  rw [List.getElem?_set_self (List.getElem?_eq_some_iff.1 hi).1]
set_option maxRecDepth 100000 in
set_option maxHeartbeats 1600000 in
theorem operate_append {w : World} {d : Dk} (h : d.item.P w) (hn : d.ps.length ≤ 16) (i : Nat) {p : Pt} (hi0 : d.ps[i]? = some p) (hd0 : 0 ≤ p.done) (hd1 : p.done ≤ 1000000000000000000) (x : Nat) (hgo : d.armed = true → p.done < p.fd) (R : Ar → Prop) (hop : ∀ W, p.a.item.P W → Below w.heap.size w W → Calls Try.prog 80 #[.pointer (some ⟨p.a.g, 0, none⟩), .pointer (some ⟨x, 0, none⟩)] W fun e w' => ∃ b, R b ∧ b.g = p.a.g ∧ ErrTurn p.a W 0 b e w') :
    Calls Try.prog 79 #[.pointer (some ⟨d.g, 0, none⟩), .int .i64 i, .func (.func 80) #[] #[.pointer (some ⟨x, 0, none⟩)]] w (OpPost d i p w R) := by
  have hilt : i < d.ps.length := (List.getElem?_eq_some_iff.1 hi0).1
  have hfi := find_any h hn i hilt
  have hi := Lib.hid hi0
  have H := Lib.hid h
  have q1 := (Dk.blk h).cell 1
  have c0 := Dk.cell h hi0 (j := 0) (by decide)
  have c1 := Dk.cell h hi0 (j := 1) (by decide)
  have c4 := Dk.cell h hi0 (j := 4) (by decide)
  unfold Pt.cells at c0 c1 c4
  simp at q1 c0 c1 c4
  have HFI := Lib.hid hfi
  clear hfi h hi0 hilt hn
  go_enter Try.func79, Try.ntmps79
  go_wp2_with fail
  refine HFI.out.mono ?_
  rintro e w' ⟨rfl, rfl⟩
  by_cases ha : d.armed = true
  · have hlt := hgo ha
    rw [ha] at q1
    have d1 : decide (p.fd ≤ p.done) = false := decide_eq_false (by omega)
    clear hgo ha
    go_upto_region 4 with fail
    go_quiet (fail)
    go_upto_region 6 with fail
    obtain ⟨W, hW⟩ : ∃ W, W = w.drewN nq := ⟨_, rfl⟩
    rw [← hW]
    have BW := Lib.hid (show Below w.heap.size w W from by rw [hW]; exact below_drewN (Below.refl _ _) nq)
    have HW := Lib.hid (Item.go H.out BW.out)
    have RP := Lib.hid (Dk.area HW.out hi.out)
    have e0 := Dk.cell HW.out hi.out (j := 0) (by decide)
    unfold Pt.cells at e0
    simp at e0
    clear hW q1 c0 c1 c4
    clear d1 hlt
    go_wp2_with fail
    refine (hop W RP.out BW.out).mono ?_
    rintro e w2 ⟨b, hR, hbg, rfl, t⟩
    have HR := Lib.hid hR
    have HBG := Lib.hid hbg
    have T1 := Lib.hid (Turn.pre BW.out (Dk.turnArea HW.out hi.out t hbg))
    have hi2 := put_get (q := { p with a := b }) hi.out
    have c4 := Dk.cell T1.out.p hi2 (j := 4) (by decide)
    have f4 := (Dk.parts T1.out.p).frozen (i * 5 + 4)
    have T2 := Lib.hid (T1.out.trans (Dk.turnCell T1.out.p hi2 (j := 4) (q := { p with a := b, done := p.done + 1 }) (by decide) (.int .i64 (p.done + 1)) rfl rfl))
    rw [put_put] at T2
    have hgp : (d.put i { p with a := b }).gp = d.gp := rfl
    rw [hgp] at c4 f4
    unfold Pt.cells at c4
    simp at c4
    clear hR hbg t T1 hi2 hgp
    go_wp2
    go_ret
    exact ⟨b, HR.out, HBG.out, rfl, T2.out⟩
  · rw [show d.armed = false from by simpa using ha] at q1
    clear hgo ha
    go_upto_region 4 with fail
    go_quiet (fail)
    go_upto_region 6 with fail
    obtain ⟨W, hW⟩ : ∃ W, W = w.drewN nq := ⟨_, rfl⟩
    rw [← hW]
    have BW := Lib.hid (show Below w.heap.size w W from by rw [hW]; exact below_drewN (Below.refl _ _) nq)
    have HW := Lib.hid (Item.go H.out BW.out)
    have RP := Lib.hid (Dk.area HW.out hi.out)
    have e0 := Dk.cell HW.out hi.out (j := 0) (by decide)
    unfold Pt.cells at e0
    simp at e0
    clear hW q1 c0 c1 c4
    go_wp2_with fail
    refine (hop W RP.out BW.out).mono ?_
    rintro e w2 ⟨b, hR, hbg, rfl, t⟩
    have HR := Lib.hid hR
    have HBG := Lib.hid hbg
    have T1 := Lib.hid (Turn.pre BW.out (Dk.turnArea HW.out hi.out t hbg))
    have hi2 := put_get (q := { p with a := b }) hi.out
    have c4 := Dk.cell T1.out.p hi2 (j := 4) (by decide)
    have f4 := (Dk.parts T1.out.p).frozen (i * 5 + 4)
    have T2 := Lib.hid (T1.out.trans (Dk.turnCell T1.out.p hi2 (j := 4) (q := { p with a := b, done := p.done + 1 }) (by decide) (.int .i64 (p.done + 1)) rfl rfl))
    rw [put_put] at T2
    have hgp : (d.put i { p with a := b }).gp = d.gp := rfl
    rw [hgp] at c4 f4
    unfold Pt.cells at c4
    simp at c4
    clear hR hbg t T1 hi2 hgp
    go_wp2
    go_ret
    exact ⟨b, HR.out, HBG.out, rfl, T2.out⟩
set_option maxRecDepth 100000 in
set_option maxHeartbeats 1600000 in
theorem operate_append_down {w : World} {d : Dk} (h : d.item.P w) (hn : d.ps.length ≤ 16) (i : Nat) {p : Pt} (hi0 : d.ps[i]? = some p) (hd0 : 0 ≤ p.done) (hd1 : p.done ≤ 1000000000000000000) (x : Nat) (ha : d.armed = true) (hdn : p.fd ≤ p.done) :
    Calls Try.prog 79 #[.pointer (some ⟨d.g, 0, none⟩), .int .i64 i, .func (.func 80) #[] #[.pointer (some ⟨x, 0, none⟩)]] w fun e w' => e = .returned (.int .i64 80) ∧ Below w.heap.size w w' := by
  have hilt : i < d.ps.length := (List.getElem?_eq_some_iff.1 hi0).1
  have hfi := find_any h hn i hilt
  have hi := Lib.hid hi0
  have H := Lib.hid h
  have q1 := (Dk.blk h).cell 1
  have c0 := Dk.cell h hi0 (j := 0) (by decide)
  have c1 := Dk.cell h hi0 (j := 1) (by decide)
  have c4 := Dk.cell h hi0 (j := 4) (by decide)
  unfold Pt.cells at c0 c1 c4
  simp at q1 c0 c1 c4
  have HFI := Lib.hid hfi
  clear hfi h hi0 hilt hn
  go_enter Try.func79, Try.ntmps79
  go_wp2_with fail
  refine HFI.out.mono ?_
  rintro e w' ⟨rfl, rfl⟩
  rw [ha] at q1
  have d1 : decide (p.fd ≤ p.done) = true := decide_eq_true hdn
  clear ha
  go_upto_region 4 with fail
  go_quiet (fail)
  go_wp2
  go_ret
  exact ⟨rfl, below_drewN (Below.refl _ _) _⟩
set_option maxRecDepth 100000 in
set_option maxHeartbeats 1600000 in
theorem operate_sync {w : World} {d : Dk} (h : d.item.P w) (hn : d.ps.length ≤ 16) (i : Nat) {p : Pt} (hi0 : d.ps[i]? = some p) (hd0 : 0 ≤ p.done) (hd1 : p.done ≤ 1000000000000000000) (hgo : d.armed = true → p.done < p.fd) (R : Ar → Prop) (hop : ∀ W, p.a.item.P W → Below w.heap.size w W → Calls Try.prog 115 #[.pointer (some ⟨p.a.g, 0, none⟩)] W fun e w' => ∃ b, R b ∧ b.g = p.a.g ∧ ErrTurn p.a W 0 b e w') :
    Calls Try.prog 79 #[.pointer (some ⟨d.g, 0, none⟩), .int .i64 i, .func (.func 115) #[] #[]] w (OpPost d i p w R) := by
  have hilt : i < d.ps.length := (List.getElem?_eq_some_iff.1 hi0).1
  have hfi := find_any h hn i hilt
  have hi := Lib.hid hi0
  have H := Lib.hid h
  have q1 := (Dk.blk h).cell 1
  have c0 := Dk.cell h hi0 (j := 0) (by decide)
  have c1 := Dk.cell h hi0 (j := 1) (by decide)
  have c4 := Dk.cell h hi0 (j := 4) (by decide)
  unfold Pt.cells at c0 c1 c4
  simp at q1 c0 c1 c4
  have HFI := Lib.hid hfi
  clear hfi h hi0 hilt hn
  go_enter Try.func79, Try.ntmps79
  go_wp2_with fail
  refine HFI.out.mono ?_
  rintro e w' ⟨rfl, rfl⟩
  by_cases ha : d.armed = true
  · have hlt := hgo ha
    rw [ha] at q1
    have d1 : decide (p.fd ≤ p.done) = false := decide_eq_false (by omega)
    clear hgo ha
    go_upto_region 4 with fail
    go_quiet (fail)
    go_upto_region 6 with fail
    obtain ⟨W, hW⟩ : ∃ W, W = w.drewN nq := ⟨_, rfl⟩
    rw [← hW]
    have BW := Lib.hid (show Below w.heap.size w W from by rw [hW]; exact below_drewN (Below.refl _ _) nq)
    have HW := Lib.hid (Item.go H.out BW.out)
    have RP := Lib.hid (Dk.area HW.out hi.out)
    have e0 := Dk.cell HW.out hi.out (j := 0) (by decide)
    unfold Pt.cells at e0
    simp at e0
    clear hW q1 c0 c1 c4
    clear d1 hlt
    go_wp2_with fail
    refine (hop W RP.out BW.out).mono ?_
    rintro e w2 ⟨b, hR, hbg, rfl, t⟩
    have HR := Lib.hid hR
    have HBG := Lib.hid hbg
    have T1 := Lib.hid (Turn.pre BW.out (Dk.turnArea HW.out hi.out t hbg))
    have hi2 := put_get (q := { p with a := b }) hi.out
    have c4 := Dk.cell T1.out.p hi2 (j := 4) (by decide)
    have f4 := (Dk.parts T1.out.p).frozen (i * 5 + 4)
    have T2 := Lib.hid (T1.out.trans (Dk.turnCell T1.out.p hi2 (j := 4) (q := { p with a := b, done := p.done + 1 }) (by decide) (.int .i64 (p.done + 1)) rfl rfl))
    rw [put_put] at T2
    have hgp : (d.put i { p with a := b }).gp = d.gp := rfl
    rw [hgp] at c4 f4
    unfold Pt.cells at c4
    simp at c4
    clear hR hbg t T1 hi2 hgp
    go_wp2
    go_ret
    exact ⟨b, HR.out, HBG.out, rfl, T2.out⟩
  · rw [show d.armed = false from by simpa using ha] at q1
    clear hgo ha
    go_upto_region 4 with fail
    go_quiet (fail)
    go_upto_region 6 with fail
    obtain ⟨W, hW⟩ : ∃ W, W = w.drewN nq := ⟨_, rfl⟩
    rw [← hW]
    have BW := Lib.hid (show Below w.heap.size w W from by rw [hW]; exact below_drewN (Below.refl _ _) nq)
    have HW := Lib.hid (Item.go H.out BW.out)
    have RP := Lib.hid (Dk.area HW.out hi.out)
    have e0 := Dk.cell HW.out hi.out (j := 0) (by decide)
    unfold Pt.cells at e0
    simp at e0
    clear hW q1 c0 c1 c4
    go_wp2_with fail
    refine (hop W RP.out BW.out).mono ?_
    rintro e w2 ⟨b, hR, hbg, rfl, t⟩
    have HR := Lib.hid hR
    have HBG := Lib.hid hbg
    have T1 := Lib.hid (Turn.pre BW.out (Dk.turnArea HW.out hi.out t hbg))
    have hi2 := put_get (q := { p with a := b }) hi.out
    have c4 := Dk.cell T1.out.p hi2 (j := 4) (by decide)
    have f4 := (Dk.parts T1.out.p).frozen (i * 5 + 4)
    have T2 := Lib.hid (T1.out.trans (Dk.turnCell T1.out.p hi2 (j := 4) (q := { p with a := b, done := p.done + 1 }) (by decide) (.int .i64 (p.done + 1)) rfl rfl))
    rw [put_put] at T2
    have hgp : (d.put i { p with a := b }).gp = d.gp := rfl
    rw [hgp] at c4 f4
    unfold Pt.cells at c4
    simp at c4
    clear hR hbg t T1 hi2 hgp
    go_wp2
    go_ret
    exact ⟨b, HR.out, HBG.out, rfl, T2.out⟩
set_option maxRecDepth 100000 in
set_option maxHeartbeats 1600000 in
theorem operate_sync_down {w : World} {d : Dk} (h : d.item.P w) (hn : d.ps.length ≤ 16) (i : Nat) {p : Pt} (hi0 : d.ps[i]? = some p) (hd0 : 0 ≤ p.done) (hd1 : p.done ≤ 1000000000000000000) (ha : d.armed = true) (hdn : p.fd ≤ p.done) :
    Calls Try.prog 79 #[.pointer (some ⟨d.g, 0, none⟩), .int .i64 i, .func (.func 115) #[] #[]] w fun e w' => e = .returned (.int .i64 80) ∧ Below w.heap.size w w' := by
  have hilt : i < d.ps.length := (List.getElem?_eq_some_iff.1 hi0).1
  have hfi := find_any h hn i hilt
  have hi := Lib.hid hi0
  have H := Lib.hid h
  have q1 := (Dk.blk h).cell 1
  have c0 := Dk.cell h hi0 (j := 0) (by decide)
  have c1 := Dk.cell h hi0 (j := 1) (by decide)
  have c4 := Dk.cell h hi0 (j := 4) (by decide)
  unfold Pt.cells at c0 c1 c4
  simp at q1 c0 c1 c4
  have HFI := Lib.hid hfi
  clear hfi h hi0 hilt hn
  go_enter Try.func79, Try.ntmps79
  go_wp2_with fail
  refine HFI.out.mono ?_
  rintro e w' ⟨rfl, rfl⟩
  rw [ha] at q1
  have d1 : decide (p.fd ≤ p.done) = true := decide_eq_true hdn
  clear ha
  go_upto_region 4 with fail
  go_quiet (fail)
  go_wp2
  go_ret
  exact ⟨rfl, below_drewN (Below.refl _ _) _⟩
set_option maxRecDepth 100000 in
set_option maxHeartbeats 1600000 in
theorem operate_cut {w : World} {d : Dk} (h : d.item.P w) (hn : d.ps.length ≤ 16) (i : Nat) {p : Pt} (hi0 : d.ps[i]? = some p) (hd0 : 0 ≤ p.done) (hd1 : p.done ≤ 1000000000000000000) (x : Nat) (hgo : d.armed = true → p.done < p.fd) (R : Ar → Prop) (hop : ∀ W, p.a.item.P W → Below w.heap.size w W → Calls Try.prog 112 #[.pointer (some ⟨p.a.g, 0, none⟩), .pointer (some ⟨x, 0, none⟩)] W fun e w' => ∃ b, R b ∧ b.g = p.a.g ∧ ErrTurn p.a W 0 b e w') :
    Calls Try.prog 79 #[.pointer (some ⟨d.g, 0, none⟩), .int .i64 i, .func (.func 112) #[] #[.pointer (some ⟨x, 0, none⟩)]] w (OpPost d i p w R) := by
  have hilt : i < d.ps.length := (List.getElem?_eq_some_iff.1 hi0).1
  have hfi := find_any h hn i hilt
  have hi := Lib.hid hi0
  have H := Lib.hid h
  have q1 := (Dk.blk h).cell 1
  have c0 := Dk.cell h hi0 (j := 0) (by decide)
  have c1 := Dk.cell h hi0 (j := 1) (by decide)
  have c4 := Dk.cell h hi0 (j := 4) (by decide)
  unfold Pt.cells at c0 c1 c4
  simp at q1 c0 c1 c4
  have HFI := Lib.hid hfi
  clear hfi h hi0 hilt hn
  go_enter Try.func79, Try.ntmps79
  go_wp2_with fail
  refine HFI.out.mono ?_
  rintro e w' ⟨rfl, rfl⟩
  by_cases ha : d.armed = true
  · have hlt := hgo ha
    rw [ha] at q1
    have d1 : decide (p.fd ≤ p.done) = false := decide_eq_false (by omega)
    clear hgo ha
    go_upto_region 4 with fail
    go_quiet (fail)
    go_upto_region 6 with fail
    obtain ⟨W, hW⟩ : ∃ W, W = w.drewN nq := ⟨_, rfl⟩
    rw [← hW]
    have BW := Lib.hid (show Below w.heap.size w W from by rw [hW]; exact below_drewN (Below.refl _ _) nq)
    have HW := Lib.hid (Item.go H.out BW.out)
    have RP := Lib.hid (Dk.area HW.out hi.out)
    have e0 := Dk.cell HW.out hi.out (j := 0) (by decide)
    unfold Pt.cells at e0
    simp at e0
    clear hW q1 c0 c1 c4
    clear d1 hlt
    go_wp2_with fail
    refine (hop W RP.out BW.out).mono ?_
    rintro e w2 ⟨b, hR, hbg, rfl, t⟩
    have HR := Lib.hid hR
    have HBG := Lib.hid hbg
    have T1 := Lib.hid (Turn.pre BW.out (Dk.turnArea HW.out hi.out t hbg))
    have hi2 := put_get (q := { p with a := b }) hi.out
    have c4 := Dk.cell T1.out.p hi2 (j := 4) (by decide)
    have f4 := (Dk.parts T1.out.p).frozen (i * 5 + 4)
    have T2 := Lib.hid (T1.out.trans (Dk.turnCell T1.out.p hi2 (j := 4) (q := { p with a := b, done := p.done + 1 }) (by decide) (.int .i64 (p.done + 1)) rfl rfl))
    rw [put_put] at T2
    have hgp : (d.put i { p with a := b }).gp = d.gp := rfl
    rw [hgp] at c4 f4
    unfold Pt.cells at c4
    simp at c4
    clear hR hbg t T1 hi2 hgp
    go_wp2
    go_ret
    exact ⟨b, HR.out, HBG.out, rfl, T2.out⟩
  · rw [show d.armed = false from by simpa using ha] at q1
    clear hgo ha
    go_upto_region 4 with fail
    go_quiet (fail)
    go_upto_region 6 with fail
    obtain ⟨W, hW⟩ : ∃ W, W = w.drewN nq := ⟨_, rfl⟩
    rw [← hW]
    have BW := Lib.hid (show Below w.heap.size w W from by rw [hW]; exact below_drewN (Below.refl _ _) nq)
    have HW := Lib.hid (Item.go H.out BW.out)
    have RP := Lib.hid (Dk.area HW.out hi.out)
    have e0 := Dk.cell HW.out hi.out (j := 0) (by decide)
    unfold Pt.cells at e0
    simp at e0
    clear hW q1 c0 c1 c4
    go_wp2_with fail
    refine (hop W RP.out BW.out).mono ?_
    rintro e w2 ⟨b, hR, hbg, rfl, t⟩
    have HR := Lib.hid hR
    have HBG := Lib.hid hbg
    have T1 := Lib.hid (Turn.pre BW.out (Dk.turnArea HW.out hi.out t hbg))
    have hi2 := put_get (q := { p with a := b }) hi.out
    have c4 := Dk.cell T1.out.p hi2 (j := 4) (by decide)
    have f4 := (Dk.parts T1.out.p).frozen (i * 5 + 4)
    have T2 := Lib.hid (T1.out.trans (Dk.turnCell T1.out.p hi2 (j := 4) (q := { p with a := b, done := p.done + 1 }) (by decide) (.int .i64 (p.done + 1)) rfl rfl))
    rw [put_put] at T2
    have hgp : (d.put i { p with a := b }).gp = d.gp := rfl
    rw [hgp] at c4 f4
    unfold Pt.cells at c4
    simp at c4
    clear hR hbg t T1 hi2 hgp
    go_wp2
    go_ret
    exact ⟨b, HR.out, HBG.out, rfl, T2.out⟩
set_option maxRecDepth 100000 in
set_option maxHeartbeats 1600000 in
theorem operate_cut_down {w : World} {d : Dk} (h : d.item.P w) (hn : d.ps.length ≤ 16) (i : Nat) {p : Pt} (hi0 : d.ps[i]? = some p) (hd0 : 0 ≤ p.done) (hd1 : p.done ≤ 1000000000000000000) (x : Nat) (ha : d.armed = true) (hdn : p.fd ≤ p.done) :
    Calls Try.prog 79 #[.pointer (some ⟨d.g, 0, none⟩), .int .i64 i, .func (.func 112) #[] #[.pointer (some ⟨x, 0, none⟩)]] w fun e w' => e = .returned (.int .i64 80) ∧ Below w.heap.size w w' := by
  have hilt : i < d.ps.length := (List.getElem?_eq_some_iff.1 hi0).1
  have hfi := find_any h hn i hilt
  have hi := Lib.hid hi0
  have H := Lib.hid h
  have q1 := (Dk.blk h).cell 1
  have c0 := Dk.cell h hi0 (j := 0) (by decide)
  have c1 := Dk.cell h hi0 (j := 1) (by decide)
  have c4 := Dk.cell h hi0 (j := 4) (by decide)
  unfold Pt.cells at c0 c1 c4
  simp at q1 c0 c1 c4
  have HFI := Lib.hid hfi
  clear hfi h hi0 hilt hn
  go_enter Try.func79, Try.ntmps79
  go_wp2_with fail
  refine HFI.out.mono ?_
  rintro e w' ⟨rfl, rfl⟩
  rw [ha] at q1
  have d1 : decide (p.fd ≤ p.done) = true := decide_eq_true hdn
  clear ha
  go_upto_region 4 with fail
  go_quiet (fail)
  go_wp2
  go_ret
  exact ⟨rfl, below_drewN (Below.refl _ _) _⟩
set_option maxRecDepth 100000 in
set_option maxHeartbeats 1600000 in
theorem operate_trim {w : World} {d : Dk} (h : d.item.P w) (hn : d.ps.length ≤ 16) (i : Nat) {p : Pt} (hi0 : d.ps[i]? = some p) (hd0 : 0 ≤ p.done) (hd1 : p.done ≤ 1000000000000000000) (x : Nat) (hgo : d.armed = true → p.done < p.fd) (R : Ar → Prop) (hop : ∀ W, p.a.item.P W → Below w.heap.size w W → Calls Try.prog 110 #[.pointer (some ⟨p.a.g, 0, none⟩), .pointer (some ⟨x, 0, none⟩)] W fun e w' => ∃ b, R b ∧ b.g = p.a.g ∧ ErrTurn p.a W 0 b e w') :
    Calls Try.prog 79 #[.pointer (some ⟨d.g, 0, none⟩), .int .i64 i, .func (.func 110) #[] #[.pointer (some ⟨x, 0, none⟩)]] w (OpPost d i p w R) := by
  have hilt : i < d.ps.length := (List.getElem?_eq_some_iff.1 hi0).1
  have hfi := find_any h hn i hilt
  have hi := Lib.hid hi0
  have H := Lib.hid h
  have q1 := (Dk.blk h).cell 1
  have c0 := Dk.cell h hi0 (j := 0) (by decide)
  have c1 := Dk.cell h hi0 (j := 1) (by decide)
  have c4 := Dk.cell h hi0 (j := 4) (by decide)
  unfold Pt.cells at c0 c1 c4
  simp at q1 c0 c1 c4
  have HFI := Lib.hid hfi
  clear hfi h hi0 hilt hn
  go_enter Try.func79, Try.ntmps79
  go_wp2_with fail
  refine HFI.out.mono ?_
  rintro e w' ⟨rfl, rfl⟩
  by_cases ha : d.armed = true
  · have hlt := hgo ha
    rw [ha] at q1
    have d1 : decide (p.fd ≤ p.done) = false := decide_eq_false (by omega)
    clear hgo ha
    go_upto_region 4 with fail
    go_quiet (fail)
    go_upto_region 6 with fail
    obtain ⟨W, hW⟩ : ∃ W, W = w.drewN nq := ⟨_, rfl⟩
    rw [← hW]
    have BW := Lib.hid (show Below w.heap.size w W from by rw [hW]; exact below_drewN (Below.refl _ _) nq)
    have HW := Lib.hid (Item.go H.out BW.out)
    have RP := Lib.hid (Dk.area HW.out hi.out)
    have e0 := Dk.cell HW.out hi.out (j := 0) (by decide)
    unfold Pt.cells at e0
    simp at e0
    clear hW q1 c0 c1 c4
    clear d1 hlt
    go_wp2_with fail
    refine (hop W RP.out BW.out).mono ?_
    rintro e w2 ⟨b, hR, hbg, rfl, t⟩
    have HR := Lib.hid hR
    have HBG := Lib.hid hbg
    have T1 := Lib.hid (Turn.pre BW.out (Dk.turnArea HW.out hi.out t hbg))
    have hi2 := put_get (q := { p with a := b }) hi.out
    have c4 := Dk.cell T1.out.p hi2 (j := 4) (by decide)
    have f4 := (Dk.parts T1.out.p).frozen (i * 5 + 4)
    have T2 := Lib.hid (T1.out.trans (Dk.turnCell T1.out.p hi2 (j := 4) (q := { p with a := b, done := p.done + 1 }) (by decide) (.int .i64 (p.done + 1)) rfl rfl))
    rw [put_put] at T2
    have hgp : (d.put i { p with a := b }).gp = d.gp := rfl
    rw [hgp] at c4 f4
    unfold Pt.cells at c4
    simp at c4
    clear hR hbg t T1 hi2 hgp
    go_wp2
    go_ret
    exact ⟨b, HR.out, HBG.out, rfl, T2.out⟩
  · rw [show d.armed = false from by simpa using ha] at q1
    clear hgo ha
    go_upto_region 4 with fail
    go_quiet (fail)
    go_upto_region 6 with fail
    obtain ⟨W, hW⟩ : ∃ W, W = w.drewN nq := ⟨_, rfl⟩
    rw [← hW]
    have BW := Lib.hid (show Below w.heap.size w W from by rw [hW]; exact below_drewN (Below.refl _ _) nq)
    have HW := Lib.hid (Item.go H.out BW.out)
    have RP := Lib.hid (Dk.area HW.out hi.out)
    have e0 := Dk.cell HW.out hi.out (j := 0) (by decide)
    unfold Pt.cells at e0
    simp at e0
    clear hW q1 c0 c1 c4
    go_wp2_with fail
    refine (hop W RP.out BW.out).mono ?_
    rintro e w2 ⟨b, hR, hbg, rfl, t⟩
    have HR := Lib.hid hR
    have HBG := Lib.hid hbg
    have T1 := Lib.hid (Turn.pre BW.out (Dk.turnArea HW.out hi.out t hbg))
    have hi2 := put_get (q := { p with a := b }) hi.out
    have c4 := Dk.cell T1.out.p hi2 (j := 4) (by decide)
    have f4 := (Dk.parts T1.out.p).frozen (i * 5 + 4)
    have T2 := Lib.hid (T1.out.trans (Dk.turnCell T1.out.p hi2 (j := 4) (q := { p with a := b, done := p.done + 1 }) (by decide) (.int .i64 (p.done + 1)) rfl rfl))
    rw [put_put] at T2
    have hgp : (d.put i { p with a := b }).gp = d.gp := rfl
    rw [hgp] at c4 f4
    unfold Pt.cells at c4
    simp at c4
    clear hR hbg t T1 hi2 hgp
    go_wp2
    go_ret
    exact ⟨b, HR.out, HBG.out, rfl, T2.out⟩
set_option maxRecDepth 100000 in
set_option maxHeartbeats 1600000 in
theorem operate_trim_down {w : World} {d : Dk} (h : d.item.P w) (hn : d.ps.length ≤ 16) (i : Nat) {p : Pt} (hi0 : d.ps[i]? = some p) (hd0 : 0 ≤ p.done) (hd1 : p.done ≤ 1000000000000000000) (x : Nat) (ha : d.armed = true) (hdn : p.fd ≤ p.done) :
    Calls Try.prog 79 #[.pointer (some ⟨d.g, 0, none⟩), .int .i64 i, .func (.func 110) #[] #[.pointer (some ⟨x, 0, none⟩)]] w fun e w' => e = .returned (.int .i64 80) ∧ Below w.heap.size w w' := by
  have hilt : i < d.ps.length := (List.getElem?_eq_some_iff.1 hi0).1
  have hfi := find_any h hn i hilt
  have hi := Lib.hid hi0
  have H := Lib.hid h
  have q1 := (Dk.blk h).cell 1
  have c0 := Dk.cell h hi0 (j := 0) (by decide)
  have c1 := Dk.cell h hi0 (j := 1) (by decide)
  have c4 := Dk.cell h hi0 (j := 4) (by decide)
  unfold Pt.cells at c0 c1 c4
  simp at q1 c0 c1 c4
  have HFI := Lib.hid hfi
  clear hfi h hi0 hilt hn
  go_enter Try.func79, Try.ntmps79
  go_wp2_with fail
  refine HFI.out.mono ?_
  rintro e w' ⟨rfl, rfl⟩
  rw [ha] at q1
  have d1 : decide (p.fd ≤ p.done) = true := decide_eq_true hdn
  clear ha
  go_upto_region 4 with fail
  go_quiet (fail)
  go_wp2
  go_ret
  exact ⟨rfl, below_drewN (Below.refl _ _) _⟩
end Go.Proofs.Ytnnladfndmdapaa
