/- Contracts and plain laws that this claim leans on, laid together: Area1, Area2, Disk1, Disk2, Disk3, Disk4, Wal1. -/
import Derived.Test.YtmnpchncmbnddaaGreatG03
import Derived.Test.YtmnpchncmbnddaaGreatG04
import Derived.Deep.Cut
import Derived.BigQuiet
import Derived.BigRegion
import Derived.Deep.RegionHeld3
import Derived.Deep.RegionLaw
import Derived.Laws.MakeOwn
set_option linter.all false
set_option linter.unusedVariables false
set_option linter.unusedSimpArgs false
set_option linter.unnecessarySimpa false
/- Areas: how they lie in memory; Append, Sync, Bounds, Read, Cut, Trim: by contract. -/
namespace Go.Proofs.YtmnpchncmbnddaaGreat
open Go.RowKit

/-- An area: its block, its row's address and capacity; where it begins, its bytes, how many are safe. -/
structure Ar where
  g : Nat
  A : Option Addr
  c : Nat
  base : Int
  l : List UInt8
  safe : Nat
def Ar.v (a : Ar) : Value := .slice a.A a.l.length a.c
def Ar.cells (a : Ar) : Array Value := #[.int .i64 a.base, .slice a.A a.l.length a.c, .int .i64 a.safe]
def Ar.item (a : Ar) : Item := Item.all [Item.blk a.g 221 a.cells, Item.row a.v a.l]
section
variable {w w' : World} {a : Ar}
theorem Ar.blk (h : a.item.P w) : Blk w a.g 221 a.cells := Item.all_get h (List.mem_cons_self ..)
theorem Ar.row (h : a.item.P w) : BOwns w 0 a.v a.l := Item.all_get (x := Item.row a.v a.l) h (by simp)
theorem Ar.reads (h : a.item.P w) : BReads w w.heap.size a.A a.l := (show BOwns w 0 (.slice a.A a.l.length a.c) a.l from Ar.row h).reads
theorem Ar.cap (h : a.item.P w) : a.l.length ≤ a.c := by
  obtain ⟨A, c, e, hc, _⟩ := BOwns.slice (show BOwns w 0 (.slice a.A a.l.length a.c) a.l from Ar.row h)
  injection e with _ _ e; omega
end
/-- The area's block is written at one cell. -/
theorem Ar.turnCell {w : World} {a b : Ar} (h : a.item.P w) (i : Nat) (u : Value) (hg : b.g = a.g) (hv : b.v = a.v) (hl : b.l = a.l) (hc : b.cells = a.cells.setIfInBounds i u) : Turn a.item w b.item (w.setCell ⟨a.g, i, none⟩ u) := by
  have t := Turn.head h (Turn.cell (Ar.blk h) i u)
  unfold Ar.item
  rw [hg, hv, hl, hc]
  exact t
/-- The same row, fewer bytes. -/
theorem BOwns.less {w : World} {base n c k : Nat} {A : Option Addr} {l : List UInt8} (h : BOwns w base (.slice A n c) l) (hk : k ≤ l.length) : BOwns w base (.slice A k c) (l.take k) := by
  have hl : (l.take k).length = k := by rw [List.length_take]; omega
  refine ⟨by rw [bys_length, Nat.mul_one], ?_⟩
  rw [hl]
  rcases h.2 with ⟨h1, h2⟩ | ⟨g, cap, cur, hv, hb, hh, hn, hcm, hs, ht⟩
  · have : k = 0 := by omega
    subst this
    injection h1 with e1 e2 e3
    subst e1; subst e3
    exact .inl ⟨rfl, rfl⟩
  · injection hv with e1 e2 e3
    subst e1; subst e3
    refine .inr ⟨g, _, cur, rfl, hb, hh, by omega, hcm, hs, ?_⟩
    rw [Nat.mul_one] at ht ⊢
    have : (cur.toList.take l.length).take k = (bys l).take k := by rw [ht]
    rw [List.take_take, show min k l.length = k from by omega] at this
    rw [this]; simp [bys, List.map_take]
theorem aown_any {w : World} {B c : Nat} {A : Option Addr} {l : List UInt8} (hr : BReads w B A l) (hl : l.length ≤ 140737488355328) :
    Calls Tryz.prog 136 #[.slice A l.length c] w (GivesB w l) := by
  go_enter Tryz.func136, Tryz.ntmps136
  go_wp2_with (at_builtin; refine Stop.of ?_)
  refine ⟨append_bytes (BOwns.nil w _) hr.src (by simpa using hl) (Nat.le_refl _) rfl rfl rfl rfl ?_⟩
  intro v' w1 hown hg _
  go_wp2
  go_ret
  exact ⟨v', rfl, hown, below_of_nil hg⟩
theorem aNew_any {w : World} : Calls Tryz.prog 98 #[] w fun e w' => e = .returned (.pointer (some ⟨w.heap.size, 0, none⟩)) ∧ (Ar.item ⟨w.heap.size, none, 0, 0, [], 0⟩).P w' ∧ Below w.heap.size w w' := by
  have K := Lib.hid (Blk.new w 221 #[.int .i64 0, .slice none 0 0, .int .i64 0])
  have B := Lib.hid ((Below.refl w.heap.size w).alloc (Nat.le_refl _) (.cells #[.int .i64 0, .slice none 0 0, .int .i64 0] 221))
  go_enter Tryz.func98, Tryz.ntmps98
  go_wp2
  go_ret
  refine ⟨rfl, ⟨fun i hi => ?_, ?_⟩, B.out⟩
  · simp only [List.mem_cons, List.not_mem_nil, or_false] at hi
    rcases hi with rfl | rfl
    · exact K.out
    · exact BOwns.nil _ _
  · refine List.pairwise_cons.2 ⟨fun i hi k _ hk => ?_, List.pairwise_cons.2 ⟨fun i hi => (by cases hi), List.Pairwise.nil⟩⟩
    simp only [List.mem_cons, List.not_mem_nil, or_false] at hi
    subst hi
    cases hk
def ErrTurn (a : Ar) (w : World) (m : Int) (b : Ar) (e : Ending) (w' : World) : Prop := e = .returned (.int .i64 m) ∧ Turn a.item w b.item w'
set_option maxRecDepth 100000 in
theorem aBounds_any {w : World} {a : Ar} (h : a.item.P w) (hb0 : 0 ≤ a.base) (hb1 : a.base ≤ 4611686018427387904) (hl : a.l.length ≤ 140737488355328) (hs : a.safe ≤ a.l.length) :
    Calls Tryz.prog 122 #[.pointer (some ⟨a.g, 0, none⟩)] w fun e w' => e = .returned (.tuple #[.int .i64 a.base, .int .i64 (a.base + a.safe), .int .i64 (a.base + a.l.length)]) ∧ Below w.heap.size w w' := by
  have q0 := (Ar.blk h).cell 0
  have q1 := (Ar.blk h).cell 1
  have q2 := (Ar.blk h).cell 2
  unfold Ar.cells at q0 q1 q2
  simp at q0 q1 q2
  obtain ⟨b, hb⟩ : ∃ b, b = a.base := ⟨_, rfl⟩
  obtain ⟨n, hn⟩ : ∃ n, n = a.l.length := ⟨_, rfl⟩
  obtain ⟨s, hs'⟩ : ∃ n, n = a.safe := ⟨_, rfl⟩
  rw [← hb] at q0 hb0 hb1 ⊢
  rw [← hn] at q1 hl hs ⊢
  rw [← hs'] at q2 hs ⊢
  have hbi : b ≤ 4611686018427387904 := hb1
  clear h hb hn hs'
  go_enter Tryz.func122, Tryz.ntmps122
  go_wp2
  go_quiet (fail)
  go_wp2
  go_ret3
  exact ⟨rfl, below_drewN (Below.refl _ _) _⟩
set_option maxRecDepth 100000 in
/-- The same area with another row. -/
theorem Ar.turnRow {w w1 : World} {a : Ar} {A' : Option Addr} {c' : Nat} {l' : List UInt8} {u : Value} (h : a.item.P w) (t : Turn (Item.row a.v a.l) w (Item.row (.slice A' l'.length c') l') w1) (hu : u = .slice A' l'.length c') :
    Turn a.item w (Ar.item { a with A := A', c := c', l := l' }) (w1.setCell ⟨a.g, 1, none⟩ u) := by
  subst hu
  have t1 := Turn.second h t
  have hb : Blk w1 a.g 221 a.cells := Item.all_get t1.p (List.mem_cons_self ..)
  have t2 := Turn.head t1.p (Turn.cell hb 1 (.slice A' l'.length c'))
  exact t1.trans t2
set_option maxRecDepth 100000 in
theorem aRead_any {w : World} {a : Ar} (h : a.item.P w) (k n : Nat) (hkn : k + n ≤ a.l.length) (hb0 : 0 ≤ a.base) (hb1 : a.base ≤ 4611686018427387904) (hl : a.l.length ≤ 140737488355328) :
    Calls Tryz.prog 123 #[.pointer (some ⟨a.g, 0, none⟩), .int .i64 (a.base + k), .int .i64 n] w fun e w' => ∃ A' c', e = .returned (.tuple #[.slice A' n c', .int .i64 0]) ∧ BOwns w' w.heap.size (.slice A' n c') ((a.l.drop k).take n) ∧ Below w.heap.size w w' := by
  have H := Lib.hid h
  have HR := Lib.hid (Ar.reads h)
  have hcap := Ar.cap h
  have q0 := (Ar.blk h).cell 0
  have q1 := (Ar.blk h).cell 1
  unfold Ar.cells at q0 q1
  simp at q0 q1
  obtain ⟨b, hb⟩ : ∃ b, b = a.base := ⟨_, rfl⟩
  obtain ⟨len, hn⟩ : ∃ n, n = a.l.length := ⟨_, rfl⟩
  obtain ⟨c, hc⟩ : ∃ n, n = a.c := ⟨_, rfl⟩
  rw [← hb] at q0 hb0 hb1 ⊢
  rw [← hn] at q1 hl hkn hcap
  rw [← hc] at q1 hcap
  obtain ⟨t, ht⟩ : ∃ t, t = b + (k : Int) := ⟨_, rfl⟩
  have d1 : decide ((n : Int) < 0) = false := decide_eq_false (by omega)
  have d2 : decide ((len : Int) < (n : Int)) = false := decide_eq_false (by omega)
  have d2' : decide (len < n) = false := decide_eq_false (by omega)
  have d3 : decide (t < b) = false := decide_eq_false (by omega)
  have d4 : decide (b + (len : Int) - (n : Int) < t) = false := decide_eq_false (by omega)
  have d5 : b ≤ t := by omega
  have d6 : t ≤ b + (len : Int) - (n : Int) := by omega
  have d7 : (n : Int) ≤ (len : Int) := by omega
  rw [← ht]
  have HT := Lib.hid ht
  have HLEN := Lib.hid hn
  clear h hb hn hc ht
  go_enter Tryz.func123, Tryz.ntmps123
  go_wp2
  go_quiet (fail)
  go_upto_region 5 with fail
  obtain ⟨W, hW⟩ : ∃ W, W = w.drewN nq := ⟨_, rfl⟩
  rw [← hW]
  have BD := Lib.hid (show Below w.heap.size w W.drew from by rw [hW]; exact (below_drewN (Below.refl _ _) nq).drew)
  have HG := Lib.hid (show a.g < W.drew.heap.size from Nat.lt_of_lt_of_le (Ar.blk H.out).lt BD.out.size)
  have y0 := (BD.out.cell (p := ⟨a.g, 0, none⟩) (Ar.blk H.out).lt).trans q0
  have y1 := (BD.out.cell (p := ⟨a.g, 1, none⟩) (Ar.blk H.out).lt).trans q1
  obtain ⟨P, hP⟩ : ∃ P, P = (a.l.drop k).take n := ⟨_, rfl⟩
  have HPL := Lib.hid (show P.length = n from by rw [hP, List.length_take, List.length_drop, ← HLEN.out]; omega)
  have HPE := Lib.hid hP
  have hrange : k + n ≤ a.l.length := by rw [← HLEN.out]; exact hkn
  have hcapl : a.l.length ≤ c := by rw [← HLEN.out]; exact hcap
  have Esub : t - b = (k : Int) := by have := HT.out; omega
  have hkl : (k : Int) ≤ (len : Int) := by omega
  have HEw := Lib.hid (show IntKind.i64.wrap (k : Int) = (k : Int) from by rw [IntKind.wrap_i64]; omega)
  have hkc : (k : Int) ≤ (c : Int) := by omega
  have hnc : (n : Int) ≤ ((c - k : Nat) : Int) := by omega
  have hnc2 : (n : Int) ≤ (c : Int) - (k : Int) := by omega
  have hklN : k ≤ len := by omega
  have hkcN : k ≤ c := by omega
  have hncN : n ≤ c - k := by omega
  have hnlN : n ≤ len - k := by omega
  clear hW q0 q1 d1 d2 d2' d3 d4 d5 d6 d7
  by_cases hck : c = k
  · have HS := Lib.hid (reads_sub_eq HR.out hrange hcapl hck)
    rw [← hP] at HS
    subst hck
    clear hP
    obtain rfl : n = 0 := by omega
    have hx := aown_any (c := 0) (HS.out.below BD.out) (by rw [HPL.out]; omega)
    rw [HPL.out] at hx
    have HXX := Lib.hid hx
    clear hx
    have Ew := HEw.out
    go_region_held3 (fun w' => w'.cell? ⟨a.g, 0, none⟩ = some (.int .i64 b) ∧ w'.cell? ⟨a.g, 1, none⟩ = some (.slice a.A len c)) (first | (with_reducible exact ⟨y0, y1⟩) | (with_reducible exact ⟨z0, z1⟩) | go_keep) ((go_at_call 136; refine HXX.out.mono ?_; rintro e w2 h; obtain ⟨v2, rfl, ho, hb2⟩ := h.out; have HO := Lib.hid ho; have HB := Lib.hid hb2; have z0 := (hb2.cell (p := ⟨a.g, 0, none⟩) HG.out).trans y0; have z1 := (hb2.cell (p := ⟨a.g, 1, none⟩) HG.out).trans y1; clear ho hb2))
    clear Ew
    go_wp2
    go_ret2
    obtain ⟨A', c', e', _, _⟩ := BOwns.slice HO.out
    rw [HPL.out] at e'
    refine ⟨A', c', ?_, ?_, ?_⟩
    · rw [show v2 = _ from e']; rfl
    · rw [← show v2 = _ from e', ← HPE.out]; exact owns_less HO.out BD.out.size
    · exact BD.out.trans (HB.out.mono BD.out.size)
  · have HS := Lib.hid (reads_sub_ne HR.out hrange hcapl hck)
    rw [← hP] at HS
    have hck2 : ¬ c - k = 0 := by omega
    clear hP
    have hx := aown_any (c := c - k) (HS.out.below BD.out) (by rw [HPL.out]; omega)
    rw [HPL.out] at hx
    have HXX := Lib.hid hx
    clear hx
    have Ew := HEw.out
    go_region_held3 (fun w' => w'.cell? ⟨a.g, 0, none⟩ = some (.int .i64 b) ∧ w'.cell? ⟨a.g, 1, none⟩ = some (.slice a.A len c)) (first | (with_reducible exact ⟨y0, y1⟩) | (with_reducible exact ⟨z0, z1⟩) | go_keep) ((go_at_call 136; refine HXX.out.mono ?_; rintro e w2 h; obtain ⟨v2, rfl, ho, hb2⟩ := h.out; have HO := Lib.hid ho; have HB := Lib.hid hb2; have z0 := (hb2.cell (p := ⟨a.g, 0, none⟩) HG.out).trans y0; have z1 := (hb2.cell (p := ⟨a.g, 1, none⟩) HG.out).trans y1; clear ho hb2))
    clear Ew
    go_wp2
    go_ret2
    obtain ⟨A', c', e', _, _⟩ := BOwns.slice HO.out
    rw [HPL.out] at e'
    refine ⟨A', c', ?_, ?_, ?_⟩
    · rw [show v2 = _ from e']; rfl
    · rw [← show v2 = _ from e', ← HPE.out]; exact owns_less HO.out BD.out.size
    · exact BD.out.trans (HB.out.mono BD.out.size)
end Go.Proofs.YtmnpchncmbnddaaGreat
/- Areas: Cut, Trim, Crash: by contract. -/
namespace Go.Proofs.YtmnpchncmbnddaaGreat
open Go.RowKit

/-- The area cut to its first bytes. -/
def Ar.cut (a : Ar) (k : Nat) : Ar := { a with l := a.l.take k, safe := min a.safe k }
set_option maxRecDepth 100000 in
set_option maxHeartbeats 1600000 in
theorem aCut_any {w : World} {a : Ar} (h : a.item.P w) (k : Nat) (hk : k ≤ a.l.length) (hs : a.safe ≤ a.l.length) (hb0 : 0 ≤ a.base) (hb1 : a.base ≤ 4611686018427387904) (hl : a.l.length ≤ 140737488355328) :
    Calls Tryz.prog 187 #[.pointer (some ⟨a.g, 0, none⟩), .int .i64 (a.base + k)] w (ErrTurn a w 0 (a.cut k)) := by
  have H := Lib.hid h
  have hcap := Ar.cap h
  have q0 := (Ar.blk h).cell 0
  have q1 := (Ar.blk h).cell 1
  unfold Ar.cells at q0 q1
  simp at q0 q1
  obtain ⟨b, hb⟩ : ∃ b, b = a.base := ⟨_, rfl⟩
  obtain ⟨len, hn⟩ : ∃ n, n = a.l.length := ⟨_, rfl⟩
  obtain ⟨c, hc⟩ : ∃ n, n = a.c := ⟨_, rfl⟩
  obtain ⟨s, hsf⟩ : ∃ n, n = a.safe := ⟨_, rfl⟩
  rw [← hb] at q0 hb0 hb1 ⊢
  rw [← hn] at q1 hl hk hcap hs
  rw [← hc] at q1 hcap
  rw [← hsf] at hs
  obtain ⟨t, ht⟩ : ∃ t, t = b + (k : Int) := ⟨_, rfl⟩
  have d3 : decide (t < b) = false := decide_eq_false (by omega)
  have d4 : decide (b + (len : Int) < t) = false := decide_eq_false (by omega)
  have d5 : b ≤ t := by omega
  have d6 : t ≤ b + (len : Int) := by omega
  rw [← ht]
  have HT := Lib.hid ht
  have HLEN := Lib.hid hn
  have HBASE := Lib.hid hb
  have HC := Lib.hid hc
  have HSF := Lib.hid hsf
  clear h hb hn hc ht hsf
  go_enter Tryz.func187, Tryz.ntmps187
  go_wp2
  go_quiet (fail)
  go_upto_region 5 with fail
  obtain ⟨W, hW⟩ : ∃ W, W = w.drewN nq := ⟨_, rfl⟩
  rw [← hW]
  have BD := Lib.hid (show Below w.heap.size w W from by rw [hW]; exact below_drewN (Below.refl _ _) nq)
  have H1 := Lib.hid (Item.go H.out BD.out)
  have r0 := (Ar.blk H1.out).cell 0
  have r1 := (Ar.blk H1.out).cell 1
  have f1 := (Ar.blk H1.out).frozen 1
  unfold Ar.cells at r0 r1
  simp at r0 r1
  rw [← HBASE.out] at r0
  rw [← HLEN.out, ← HC.out] at r1
  have Esub : t - b = (k : Int) := by have := HT.out; omega
  have hkl : (k : Int) ≤ (len : Int) := by omega
  have hkc : (k : Int) ≤ (c : Int) := by omega
  have HEw := Lib.hid (show IntKind.i64.wrap (k : Int) = (k : Int) from by rw [IntKind.wrap_i64]; omega)
  clear hW q0 q1 d3 d4 d5 d6
  have Ew := HEw.out
  go_region
  clear Ew
  have hkk : (a.l.take k).length = k := by rw [List.length_take, ← HLEN.out]; omega
  have T1 := Ar.turnRow (a := a) (w := W) (w1 := W) (A' := a.A) (c' := c) (l' := a.l.take k) (u := .slice a.A k c) H1.out
    (Turn.row (l := a.l) (base := 0) (by
      have hr2 : BOwns W 0 (.slice a.A a.l.length a.c) a.l := Ar.row H1.out
      have := BOwns.less hr2 (k := k) (by rw [← HLEN.out]; exact hk)
      rw [← HC.out] at this
      rwa [hkk]) (Keeps.refl _ _) (.inl (by unfold Ar.v; cases a.A <;> rfl)))
    (by rw [hkk])
  have T2 := Lib.hid (Turn.pre BD.out (T1.go (Below.refl _ _).drew))
  have hA1 : (Ar.item { a with c := c, l := a.l.take k }).P (W.setCell ⟨a.g, 1, none⟩ (.slice a.A k c)).drew := (T1.go (Below.refl _ _).drew).p
  obtain ⟨W2, hW2⟩ : ∃ W2, W2 = (W.setCell ⟨a.g, 1, none⟩ (.slice a.A k c)).drew := ⟨_, rfl⟩
  rw [← hW2] at T2 hA1
  have q1 := (Ar.blk hA1).cell 1
  have q2 := (Ar.blk hA1).cell 2
  have f2 := (Ar.blk hA1).frozen 2
  unfold Ar.cells at q1 q2
  simp at q1 q2 f2
  have HKK := Lib.hid hkk
  rw [show min k a.l.length = k from by rw [← HLEN.out]; omega] at q1
  rw [← HSF.out] at q2
  have HA1 := Lib.hid hA1
  have HW2 := Lib.hid hW2.symm
  clear T1 hkk hA1 hW2
  go_upto_region 6 with fail
  rw [HW2.out]
  clear r0 r1 f1 HW2
  by_cases hsk : s ≤ k
  · have hmin : min (s : Int) (k : Int) = (s : Int) := by omega
    have T3 := Lib.hid (T2.out.trans ((Ar.turnCell (b := a.cut k) HA1.out 2 (.int .i64 (s : Int)) rfl (by unfold Ar.v Ar.cut; rw [← HC.out]) rfl (by unfold Ar.cells Ar.cut; rw [← HC.out]; simp [← HSF.out]; omega)).go (Below.refl _ _).drew))
    clear T2 HA1
    go_region
    go_wp2
    go_ret
    exact ⟨rfl, T3.out⟩
  · have hmin : min (s : Int) (k : Int) = (k : Int) := by omega
    have T3 := Lib.hid (T2.out.trans ((Ar.turnCell (b := a.cut k) HA1.out 2 (.int .i64 (k : Int)) rfl (by unfold Ar.v Ar.cut; rw [← HC.out]) rfl (by unfold Ar.cells Ar.cut; rw [← HC.out]; simp [← HSF.out]; omega)).go (Below.refl _ _).drew))
    clear T2 HA1
    go_region
    go_wp2
    go_ret
    exact ⟨rfl, T3.out⟩
end Go.Proofs.YtmnpchncmbnddaaGreat
/- Disks: how they lie in memory; find, Bounds, Read, Done: by contract. -/
namespace Go.Proofs.YtmnpchncmbnddaaGreat
open Go.RowKit

/-- A part of a disk: its area, its fate, how many operations were carried out. -/
structure Pt where
  a : Ar
  fd : Int
  fk : Int
  ft : Int
  done : Int
def Pt.cells (p : Pt) : List Value := [.pointer (some ⟨p.a.g, 0, none⟩), .int .i64 p.fd, .int .i64 p.fk, .int .u8 p.ft, .int .i64 p.done]
def partCells (ps : List Pt) : Array Value := (ps.map Pt.cells).flatten.toArray
theorem flat_get {α : Type} {L : List (List α)} {n : Nat} (h : ∀ x ∈ L, x.length = n) {i j : Nat} {x : List α} (hi : L[i]? = some x) (hj : j < n) : L.flatten[i * n + j]? = x[j]? := by
  induction L generalizing i with
  | nil => cases hi
  | cons y L ih =>
    have hy := h y (by simp)
    rw [List.flatten_cons]
    cases i with
    | zero =>
      simp only [List.getElem?_cons_zero, Option.some.injEq] at hi
      subst hi
      rw [List.getElem?_append_left (by omega)]; simp
    | succ i =>
      simp only [List.getElem?_cons_succ] at hi
      rw [List.getElem?_append_right (by rw [hy]; rw [Nat.add_mul]; omega), hy, show (i + 1) * n + j - n = i * n + j from by rw [Nat.add_mul]; omega]
      exact ih (fun x hx => h x (by simp [hx])) hi
theorem flat_set {α : Type} {L : List (List α)} {n : Nat} (h : ∀ x ∈ L, x.length = n) {i j : Nat} {x : List α} (hi : L[i]? = some x) (hj : j < n) (u : α) : L.flatten.set (i * n + j) u = (L.set i (x.set j u)).flatten := by
  induction L generalizing i with
  | nil => cases hi
  | cons y L ih =>
    have hy := h y (by simp)
    cases i with
    | zero =>
      simp only [List.getElem?_cons_zero, Option.some.injEq] at hi
      subst hi
      rw [List.set_cons_zero, List.flatten_cons, List.flatten_cons, List.set_append_left _ _ (by omega)]; simp
    | succ i =>
      simp only [List.getElem?_cons_succ] at hi
      rw [List.set_cons_succ, List.flatten_cons, List.flatten_cons, List.set_append_right _ _ (by rw [hy, Nat.add_mul]; omega), hy, show (i + 1) * n + j - n = i * n + j from by rw [Nat.add_mul]; omega]
      rw [ih (fun x hx => h x (by simp [hx])) hi]
theorem pt_len (ps : List Pt) : ∀ x ∈ ps.map Pt.cells, x.length = 5 := by
  intro x hx
  obtain ⟨p, _, rfl⟩ := List.mem_map.1 hx
  rfl
theorem partCells_get {ps : List Pt} {i j : Nat} {p : Pt} (hi : ps[i]? = some p) (hj : j < 5) : (partCells ps)[i * 5 + j]? = p.cells[j]? := by
  unfold partCells
  rw [List.getElem?_toArray]
  exact flat_get (pt_len ps) (by rw [List.getElem?_map, hi]; rfl) hj
theorem partCells_set {ps : List Pt} {i j : Nat} {p q : Pt} (hi : ps[i]? = some p) (hj : j < 5) {u : Value} (hq : q.cells = p.cells.set j u) : (partCells ps).setIfInBounds (i * 5 + j) u = partCells (ps.set i q) := by
  apply Array.ext'
  unfold partCells
  rw [Array.toList_setIfInBounds]
  show (ps.map Pt.cells).flatten.set _ _ = ((ps.set i q).map Pt.cells).flatten
  rw [flat_set (pt_len ps) (x := p.cells) (by rw [List.getElem?_map, hi]; rfl) hj, List.map_set, hq]
/-- A disk. -/
structure Dk where
  g : Nat
  gp : Nat
  armed : Bool
  ps : List Pt
def Dk.pieces (d : Dk) : List Item := Item.blk d.g 149 #[.slice (some ⟨d.gp, 0, none⟩) d.ps.length d.ps.length, .bool d.armed] :: Item.blk d.gp 146 (partCells d.ps) :: d.ps.map (fun p => p.a.item)
def Dk.item (d : Dk) : Item := Item.all d.pieces
section
variable {w w' : World} {d : Dk}
theorem Dk.blk (h : d.item.P w) : Blk w d.g 149 #[.slice (some ⟨d.gp, 0, none⟩) d.ps.length d.ps.length, .bool d.armed] := Item.all_get h (List.mem_cons_self ..)
theorem Dk.parts (h : d.item.P w) : Blk w d.gp 146 (partCells d.ps) := Item.all_get h (List.mem_cons_of_mem _ (List.mem_cons_self ..))
theorem Dk.area (h : d.item.P w) {i : Nat} {p : Pt} (hi : d.ps[i]? = some p) : p.a.item.P w :=
  Item.all_get h (List.mem_cons_of_mem _ (List.mem_cons_of_mem _ (List.mem_map.2 ⟨p, List.mem_of_getElem? hi, rfl⟩)))
theorem Dk.cell (h : d.item.P w) {i : Nat} {p : Pt} (hi : d.ps[i]? = some p) {j : Nat} (hj : j < 5) : w.cell? ⟨d.gp, i * 5 + j, none⟩ = p.cells[j]? := by
  rw [(Dk.parts h).cell, partCells_get hi hj]
end
set_option maxRecDepth 100000 in
theorem find_any {w : World} {d : Dk} (h : d.item.P w) (hn : d.ps.length ≤ 16) (i : Nat) (hi : i < d.ps.length) :
    Calls Tryz.prog 99 #[.pointer (some ⟨d.g, 0, none⟩), .int .i64 i] w fun e w' => e = .returned (.tuple #[.pointer (some ⟨d.gp, i * 5, none⟩), .int .i64 0]) ∧ w = w' := by
  have q0 := (Dk.blk h).cell 0
  simp at q0
  obtain ⟨n, hN⟩ : ∃ n, n = d.ps.length := ⟨_, rfl⟩
  rw [← hN] at q0 hn hi
  have d1 : decide ((i : Int) < 0) = false := decide_eq_false (by omega)
  have d2 : decide (n ≤ i) = false := decide_eq_false (by omega)
  have d3 : (i : Int) < (n : Int) := by omega
  have hii : i < n := hi
  clear h hN
  go_enter Tryz.func99, Tryz.ntmps99
  go_wp2
  go_ret2
  exact ⟨rfl, rfl⟩
def Dk.put (d : Dk) (i : Nat) (q : Pt) : Dk := { d with ps := d.ps.set i q }
theorem Dk.turnArea {w w' : World} {d : Dk} {i : Nat} {p : Pt} {b : Ar} (h : d.item.P w) (hi : d.ps[i]? = some p) (t : Turn p.a.item w b.item w') (hg : b.g = p.a.g) : Turn d.item w (d.put i { p with a := b }).item w' := by
  have hx : d.pieces[i + 2]? = some p.a.item := by
    unfold Dk.pieces
    simp only [List.getElem?_cons_succ, List.getElem?_map, hi, Option.map_some]
  have := Turn.set h hx t
  have e : d.pieces.set (i + 2) b.item = (d.put i { p with a := b }).pieces := by
    have hc : partCells (d.ps.set i { p with a := b }) = partCells d.ps := by
      unfold partCells
      congr 2
      rw [List.map_set]
      obtain ⟨hlt, he⟩ := List.getElem?_eq_some_iff.1 hi
      apply List.ext_getElem
      · simp
      · intro k h1 h2
        rw [List.getElem_set]
        split
        · rename_i e; subst e; rw [List.getElem_map, he]; show _ = Pt.cells p; unfold Pt.cells; rw [← hg]
        · rfl
    unfold Dk.pieces Dk.put
    simp only [List.set_cons_succ, List.map_set, List.length_set, hc]
  rw [e] at this
  exact this
theorem Dk.turnCell {w : World} {d : Dk} {i j : Nat} {p q : Pt} (h : d.item.P w) (hi : d.ps[i]? = some p) (hj : j < 5) (u : Value) (hq : q.cells = p.cells.set j u) (ha : q.a = p.a) : Turn d.item w (d.put i q).item (w.setCell ⟨d.gp, i * 5 + j, none⟩ u) := by
  have := Turn.second h (Turn.cell (Dk.parts h) (i * 5 + j) u)
  rw [partCells_set hi hj hq] at this
  have e : (d.put i q).pieces = Item.blk d.g 149 #[.slice (some ⟨d.gp, 0, none⟩) d.ps.length d.ps.length, .bool d.armed] :: Item.blk d.gp 146 (partCells (d.ps.set i q)) :: d.ps.map (fun p => p.a.item) := by
    have hm : (d.ps.set i q).map (fun p => p.a.item) = d.ps.map (fun p => p.a.item) := by
      obtain ⟨hlt, he⟩ := List.getElem?_eq_some_iff.1 hi
      apply List.ext_getElem
      · simp
      · intro k h1 h2
        rw [List.getElem_map, List.getElem_map, List.getElem_set]
        split
        · rename_i e; subst e; rw [he, ha]
        · rfl
    unfold Dk.pieces Dk.put
    simp only [List.length_set, hm]
  unfold Dk.item
  rw [e]
  exact this
end Go.Proofs.YtmnpchncmbnddaaGreat
/- Disks: Append, Sync, Cut, Trim, by contract (printed by a program of this claim's own). -/
namespace Go.Proofs.YtmnpchncmbnddaaGreat
open Go.RowKit

/-- The operation was carried out: the area is another one, one operation more is done. -/
def OpPost (d : Dk) (i : Nat) (p : Pt) (w : World) (R : Ar → Prop) (e : Ending) (w' : World) : Prop :=
  ∃ b, R b ∧ b.g = p.a.g ∧ e = .returned (.int .i64 0) ∧ Turn d.item w (d.put i { p with a := b, done := p.done + 1 }).item w'
theorem put_put {d : Dk} {i : Nat} {p q : Pt} : (d.put i p).put i q = d.put i q := by unfold Dk.put; simp
theorem put_get {d : Dk} {i : Nat} {p q : Pt} (hi : d.ps[i]? = some p) : (d.put i q).ps[i]? = some q := by
  unfold Dk.put
  rw [List.getElem?_set_self (List.getElem?_eq_some_iff.1 hi).1]
set_option maxRecDepth 100000 in
set_option maxHeartbeats 1600000 in
theorem operate_cut {w : World} {d : Dk} (h : d.item.P w) (hn : d.ps.length ≤ 16) (i : Nat) {p : Pt} (hi0 : d.ps[i]? = some p) (hd0 : 0 ≤ p.done) (hd1 : p.done ≤ 1000000000000000000) (x : Nat) (hgo : d.armed = true → p.done < p.fd) (R : Ar → Prop) (hop : ∀ W, p.a.item.P W → Below w.heap.size w W → Calls Tryz.prog 186 #[.pointer (some ⟨p.a.g, 0, none⟩), .pointer (some ⟨x, 0, none⟩)] W fun e w' => ∃ b, R b ∧ b.g = p.a.g ∧ ErrTurn p.a W 0 b e w') :
    Calls Tryz.prog 115 #[.pointer (some ⟨d.g, 0, none⟩), .int .i64 i, .func (.func 186) #[] #[.pointer (some ⟨x, 0, none⟩)]] w (OpPost d i p w R) := by
  have hilt : i < d.ps.length := (List.getElem?_eq_some_iff.1 hi0).1
  have hfi := find_any h hn i hilt
  have hi := Lib.hid hi0
  have H := Lib.hid h
  have q1 := (Dk.blk h).cell 1
  have c0 := Dk.cell h hi0 (j := 0) (by decide)
  have c1 := Dk.cell h hi0 (j := 1) (by decide)
  have c4 := Dk.cell h hi0 (j := 4) (by decide)
  unfold Pt.cells at c0 c1 c4
  simp at q1 c0 c1 c4
  have HFI := Lib.hid hfi
  clear hfi h hi0 hilt hn
  go_enter Tryz.func115, Tryz.ntmps115
  go_wp2_with fail
  refine HFI.out.mono ?_
  rintro e w' ⟨rfl, rfl⟩
  by_cases ha : d.armed = true
  · have hlt := hgo ha
    rw [ha] at q1
    have d1 : decide (p.fd ≤ p.done) = false := decide_eq_false (by omega)
    clear hgo ha
    go_upto_region 4 with fail
    go_quiet (fail)
    go_upto_region 6 with fail
    obtain ⟨W, hW⟩ : ∃ W, W = w.drewN nq := ⟨_, rfl⟩
    rw [← hW]
    have BW := Lib.hid (show Below w.heap.size w W from by rw [hW]; exact below_drewN (Below.refl _ _) nq)
    have HW := Lib.hid (Item.go H.out BW.out)
    have RP := Lib.hid (Dk.area HW.out hi.out)
    have e0 := Dk.cell HW.out hi.out (j := 0) (by decide)
    unfold Pt.cells at e0
    simp at e0
    clear hW q1 c0 c1 c4
    clear d1 hlt
    go_wp2_with fail
    refine (hop W RP.out BW.out).mono ?_
    rintro e w2 ⟨b, hR, hbg, rfl, t⟩
    have HR := Lib.hid hR
    have HBG := Lib.hid hbg
    have T1 := Lib.hid (Turn.pre BW.out (Dk.turnArea HW.out hi.out t hbg))
    have hi2 := put_get (q := { p with a := b }) hi.out
    have c4 := Dk.cell T1.out.p hi2 (j := 4) (by decide)
    have f4 := (Dk.parts T1.out.p).frozen (i * 5 + 4)
    have T2 := Lib.hid (T1.out.trans (Dk.turnCell T1.out.p hi2 (j := 4) (q := { p with a := b, done := p.done + 1 }) (by decide) (.int .i64 (p.done + 1)) rfl rfl))
    rw [put_put] at T2
    have hgp : (d.put i { p with a := b }).gp = d.gp := rfl
    rw [hgp] at c4 f4
    unfold Pt.cells at c4
    simp at c4
    clear hR hbg t T1 hi2 hgp
    go_wp2
    go_ret
    exact ⟨b, HR.out, HBG.out, rfl, T2.out⟩
  · rw [show d.armed = false from by simpa using ha] at q1
    clear hgo ha
    go_upto_region 4 with fail
    go_quiet (fail)
    go_upto_region 6 with fail
    obtain ⟨W, hW⟩ : ∃ W, W = w.drewN nq := ⟨_, rfl⟩
    rw [← hW]
    have BW := Lib.hid (show Below w.heap.size w W from by rw [hW]; exact below_drewN (Below.refl _ _) nq)
    have HW := Lib.hid (Item.go H.out BW.out)
    have RP := Lib.hid (Dk.area HW.out hi.out)
    have e0 := Dk.cell HW.out hi.out (j := 0) (by decide)
    unfold Pt.cells at e0
    simp at e0
    clear hW q1 c0 c1 c4
    go_wp2_with fail
    refine (hop W RP.out BW.out).mono ?_
    rintro e w2 ⟨b, hR, hbg, rfl, t⟩
    have HR := Lib.hid hR
    have HBG := Lib.hid hbg
    have T1 := Lib.hid (Turn.pre BW.out (Dk.turnArea HW.out hi.out t hbg))
    have hi2 := put_get (q := { p with a := b }) hi.out
    have c4 := Dk.cell T1.out.p hi2 (j := 4) (by decide)
    have f4 := (Dk.parts T1.out.p).frozen (i * 5 + 4)
    have T2 := Lib.hid (T1.out.trans (Dk.turnCell T1.out.p hi2 (j := 4) (q := { p with a := b, done := p.done + 1 }) (by decide) (.int .i64 (p.done + 1)) rfl rfl))
    rw [put_put] at T2
    have hgp : (d.put i { p with a := b }).gp = d.gp := rfl
    rw [hgp] at c4 f4
    unfold Pt.cells at c4
    simp at c4
    clear hR hbg t T1 hi2 hgp
    go_wp2
    go_ret
    exact ⟨b, HR.out, HBG.out, rfl, T2.out⟩
set_option maxRecDepth 100000 in
set_option maxHeartbeats 1600000 in
theorem operate_cut_down {w : World} {d : Dk} (h : d.item.P w) (hn : d.ps.length ≤ 16) (i : Nat) {p : Pt} (hi0 : d.ps[i]? = some p) (hd0 : 0 ≤ p.done) (hd1 : p.done ≤ 1000000000000000000) (x : Nat) (ha : d.armed = true) (hdn : p.fd ≤ p.done) :
    Calls Tryz.prog 115 #[.pointer (some ⟨d.g, 0, none⟩), .int .i64 i, .func (.func 186) #[] #[.pointer (some ⟨x, 0, none⟩)]] w fun e w' => e = .returned (.int .i64 80) ∧ Below w.heap.size w w' := by
  have hilt : i < d.ps.length := (List.getElem?_eq_some_iff.1 hi0).1
  have hfi := find_any h hn i hilt
  have hi := Lib.hid hi0
  have H := Lib.hid h
  have q1 := (Dk.blk h).cell 1
  have c0 := Dk.cell h hi0 (j := 0) (by decide)
  have c1 := Dk.cell h hi0 (j := 1) (by decide)
  have c4 := Dk.cell h hi0 (j := 4) (by decide)
  unfold Pt.cells at c0 c1 c4
  simp at q1 c0 c1 c4
  have HFI := Lib.hid hfi
  clear hfi h hi0 hilt hn
  go_enter Tryz.func115, Tryz.ntmps115
  go_wp2_with fail
  refine HFI.out.mono ?_
  rintro e w' ⟨rfl, rfl⟩
  rw [ha] at q1
  have d1 : decide (p.fd ≤ p.done) = true := decide_eq_true hdn
  clear ha
  go_upto_region 4 with fail
  go_quiet (fail)
  go_wp2
  go_ret
  exact ⟨rfl, below_drewN (Below.refl _ _) _⟩
end Go.Proofs.YtmnpchncmbnddaaGreat
/- Disks: Append, Sync, Cut, Trim, Bounds, Read, Done, by contract (printed by a program of this claim's own). -/
namespace Go.Proofs.YtmnpchncmbnddaaGreat
open Go.RowKit

theorem OpPost.pre {d : Dk} {i : Nat} {p : Pt} {w w1 : World} {R : Ar → Prop} {e : Ending} {w' : World} (hb : Below w.heap.size w w1) (h : OpPost d i p w1 R e w') : OpPost d i p w R e w' := by
  obtain ⟨b, h1, h2, h3, h4⟩ := h
  exact ⟨b, h1, h2, h3, Turn.pre hb h4⟩
set_option maxRecDepth 100000 in
set_option maxHeartbeats 1600000 in
theorem cut1_any {w : World} {a : Ar} (h : a.item.P w) {x : Nat} {k : Nat} (hx : w.cell? ⟨x, 0, none⟩ = some (.int .i64 (a.base + k))) (hk : k ≤ a.l.length) (hs : a.safe ≤ a.l.length) (hb0 : 0 ≤ a.base) (hb1 : a.base ≤ 4611686018427387904) (hl : a.l.length ≤ 140737488355328) :
    Calls Tryz.prog 186 #[.pointer (some ⟨a.g, 0, none⟩), .pointer (some ⟨x, 0, none⟩)] w fun e w' => ∃ bx : Ar, (fun a' => a' = a.cut k) bx ∧ bx.g = a.g ∧ ErrTurn a w 0 bx e w' := by
  have hc := aCut_any h k hk hs hb0 hb1 hl
  have HC := Lib.hid hc
  clear hc h
  go_enter Tryz.func186, Tryz.ntmps186
  go_wp2_with fail
  refine HC.out.mono ?_
  rintro e w' ⟨rfl, ht⟩
  have HT := Lib.hid ht
  clear ht
  go_wp2
  go_ret
  exact ⟨_, rfl, rfl, rfl, HT.out⟩
set_option maxRecDepth 100000 in
set_option maxHeartbeats 1600000 in
theorem dCut_any {w : World} {d : Dk} (h : d.item.P w) (hn : d.ps.length ≤ 16) (i : Nat) {p : Pt} (hi0 : d.ps[i]? = some p) (hd0 : 0 ≤ p.done) (hd1 : p.done ≤ 1000000000000000000) (hgo : d.armed = true → p.done < p.fd) {k : Nat} (hk0 : k ≤ p.a.l.length) (hs : p.a.safe ≤ p.a.l.length) (hb0 : 0 ≤ p.a.base) (hb1 : p.a.base ≤ 4611686018427387904) (hl : p.a.l.length ≤ 140737488355328) :
    Calls Tryz.prog 140 #[.pointer (some ⟨d.g, 0, none⟩), .int .i64 i, .int .i64 (p.a.base + k)] w (OpPost d i p w (fun a' => a' = p.a.cut k)) := by
  have B1 := Lib.hid ((Below.refl w.heap.size w).alloc (Nat.le_refl _) (.cells #[.int .i64 (p.a.base + k)] 3))
  have hk := Blk.new w 3 #[.int .i64 (p.a.base + k)]
  have hcl := hk.cell 0
  have hlt := hk.lt
  simp only [List.getElem?_toArray, List.getElem?_cons_zero] at hcl
  have hop := operate_cut (Item.go h B1.out) hn i hi0 hd0 hd1 w.heap.size hgo (fun a' => a' = p.a.cut k) (fun W hP hB => cut1_any hP ((hB.cell (p := ⟨w.heap.size, 0, none⟩) hlt).trans hcl) hk0 hs hb0 hb1 hl)
  have HOP := Lib.hid hop
  clear hop hk hcl hlt h hgo
  have hmf : ∀ (fn : Fn) (first cap : Array Value) (w : World), (Instr.makeFunc fn first cap).run Tryz.prog w = .ok (.func fn first cap) w := fun _ _ _ _ => rfl
  go_enter Tryz.func140, Tryz.ntmps140
  go_wp2_with fail
  refine HOP.out.mono ?_
  rintro e w' ⟨b', hR, hg, rfl, t⟩
  have HH := Lib.hid (show OpPost d i p w (fun a' => a' = p.a.cut k) (.returned (.int .i64 0)) w' from OpPost.pre B1.out ⟨b', hR, hg, rfl, t⟩)
  clear hR hg t
  go_wp2
  go_ret
  exact HH.out
set_option maxRecDepth 100000 in
set_option maxHeartbeats 1600000 in
theorem dCut_down {w : World} {d : Dk} (h : d.item.P w) (hn : d.ps.length ≤ 16) (i : Nat) {p : Pt} (hi0 : d.ps[i]? = some p) (hd0 : 0 ≤ p.done) (hd1 : p.done ≤ 1000000000000000000) (ha : d.armed = true) (hdn : p.fd ≤ p.done) {k : Nat} :
    Calls Tryz.prog 140 #[.pointer (some ⟨d.g, 0, none⟩), .int .i64 i, .int .i64 (p.a.base + k)] w fun e w' => e = .returned (.int .i64 80) ∧ Below w.heap.size w w' := by
  have B1 := Lib.hid ((Below.refl w.heap.size w).alloc (Nat.le_refl _) (.cells #[.int .i64 (p.a.base + k)] 3))
  have hop := operate_cut_down (Item.go h B1.out) hn i hi0 hd0 hd1 w.heap.size ha hdn
  have HOP := Lib.hid hop
  clear hop h ha
  have hmf : ∀ (fn : Fn) (first cap : Array Value) (w : World), (Instr.makeFunc fn first cap).run Tryz.prog w = .ok (.func fn first cap) w := fun _ _ _ _ => rfl
  go_enter Tryz.func140, Tryz.ntmps140
  go_wp2_with fail
  refine HOP.out.mono ?_
  rintro e w' ⟨rfl, hb⟩
  have HH := Lib.hid (B1.out.trans (hb.mono B1.out.size))
  clear hb
  go_wp2
  go_ret
  exact ⟨rfl, HH.out⟩
set_option maxRecDepth 100000 in
set_option maxHeartbeats 1600000 in
theorem dBounds_any {w : World} {d : Dk} (h : d.item.P w) (hn : d.ps.length ≤ 16) (i : Nat) {p : Pt} (hi0 : d.ps[i]? = some p) (hb0 : 0 ≤ p.a.base) (hb1 : p.a.base ≤ 4611686018427387904) (hl : p.a.l.length ≤ 140737488355328) (hs : p.a.safe ≤ p.a.l.length) :
    Calls Tryz.prog 58 #[.pointer (some ⟨d.g, 0, none⟩), .int .i64 i] w fun e w' => e = .returned (.tuple #[.int .i64 p.a.base, .int .i64 (p.a.base + p.a.safe), .int .i64 (p.a.base + p.a.l.length), .int .i64 0]) ∧ Below w.heap.size w w' := by
  have hfi := find_any h hn i (List.getElem?_eq_some_iff.1 hi0).1
  have c0 := Dk.cell h hi0 (j := 0) (by decide)
  have c4 := Dk.cell h hi0 (j := 4) (by decide)
  unfold Pt.cells at c0 c4
  simp at c0 c4
  have HFI := Lib.hid hfi
  have HA := Lib.hid (Dk.area h hi0)
  clear hfi h hi0
  go_enter Tryz.func58, Tryz.ntmps58
  go_wp2_with fail
  refine HFI.out.mono ?_
  rintro e w' ⟨rfl, rfl⟩
  go_wp2_with fail
  refine (aBounds_any HA.out hb0 hb1 hl hs).mono ?_
  rintro e w2 ⟨rfl, hb⟩
  have HB := Lib.hid hb
  clear hb
  go_wp2
  refine bodyPost_ret (v := .tuple #[.int .i64 p.a.base, .int .i64 (p.a.base + p.a.safe), .int .i64 (p.a.base + p.a.l.length), .int .i64 0]) (by simp [results, Tryz.results58, go_sem]) rfl ?_
  exact ⟨rfl, HB.out⟩
set_option maxRecDepth 100000 in
set_option maxHeartbeats 1600000 in
theorem dRead_any {w : World} {d : Dk} (h : d.item.P w) (hn : d.ps.length ≤ 16) (i : Nat) {p : Pt} (hi0 : d.ps[i]? = some p) (k n : Nat) (hkn : k + n ≤ p.a.l.length) (hb0 : 0 ≤ p.a.base) (hb1 : p.a.base ≤ 4611686018427387904) (hl : p.a.l.length ≤ 140737488355328) :
    Calls Tryz.prog 59 #[.pointer (some ⟨d.g, 0, none⟩), .int .i64 i, .int .i64 (p.a.base + k), .int .i64 n] w fun e w' => ∃ A' c', e = .returned (.tuple #[.slice A' n c', .int .i64 0]) ∧ BOwns w' w.heap.size (.slice A' n c') ((p.a.l.drop k).take n) ∧ Below w.heap.size w w' := by
  have hfi := find_any h hn i (List.getElem?_eq_some_iff.1 hi0).1
  have c0 := Dk.cell h hi0 (j := 0) (by decide)
  have c4 := Dk.cell h hi0 (j := 4) (by decide)
  unfold Pt.cells at c0 c4
  simp at c0 c4
  have HFI := Lib.hid hfi
  have HA := Lib.hid (Dk.area h hi0)
  clear hfi h hi0
  go_enter Tryz.func59, Tryz.ntmps59
  go_wp2_with fail
  refine HFI.out.mono ?_
  rintro e w' ⟨rfl, rfl⟩
  go_wp2_with fail
  refine (aRead_any HA.out k n hkn hb0 hb1 hl).mono ?_
  rintro e w2 ⟨A', c', rfl, ho, hb⟩
  have HO := Lib.hid ho
  have HB := Lib.hid hb
  clear ho hb
  go_wp2
  go_ret2
  exact ⟨A', c', rfl, HO.out, HB.out⟩
set_option maxRecDepth 100000 in
set_option maxHeartbeats 1600000 in
theorem dDone_any {w : World} {d : Dk} (h : d.item.P w) (hn : d.ps.length ≤ 16) (i : Nat) {p : Pt} (hi0 : d.ps[i]? = some p)  :
    Calls Tryz.prog 42 #[.pointer (some ⟨d.g, 0, none⟩), .int .i64 i] w fun e w' => e = .returned (.int .i64 p.done) ∧ w = w' := by
  have hfi := find_any h hn i (List.getElem?_eq_some_iff.1 hi0).1
  have c0 := Dk.cell h hi0 (j := 0) (by decide)
  have c4 := Dk.cell h hi0 (j := 4) (by decide)
  unfold Pt.cells at c0 c4
  simp at c0 c4
  have HFI := Lib.hid hfi
  have HA := Lib.hid (Dk.area h hi0)
  clear hfi h hi0
  go_enter Tryz.func42, Tryz.ntmps42
  go_wp2_with fail
  refine HFI.out.mono ?_
  rintro e w' ⟨rfl, rfl⟩
  go_wp2
  go_ret
  exact ⟨rfl, rfl⟩
end Go.Proofs.YtmnpchncmbnddaaGreat
/- Disks: New, by contract. -/
namespace Go.Proofs.YtmnpchncmbnddaaGreat
open Go.RowKit

def zeroPt : List Value := [.pointer none, .int .i64 0, .int .i64 0, .int .u8 0, .int .i64 0]
theorem info_part : (Tryz.prog.info? 146).map (fun i => (i.zero.map Value.cells, i.size, i.bytes)) = some (some #[.pointer none, .int .i64 0, .int .i64 0, .int .u8 0, .int .i64 0], 5, 40) := by kernel_rfl
/-- The parts that are made, and those that are not. -/
def mixCells (ps : List Pt) (m : Nat) : Array Value := ((ps.map Pt.cells) ++ List.replicate m zeroPt).flatten.toArray
theorem mix_len (ps : List Pt) (m : Nat) : ∀ x ∈ (ps.map Pt.cells) ++ List.replicate m zeroPt, x.length = 5 := by
  intro x hx
  rcases List.mem_append.1 hx with h | h
  · exact pt_len ps x h
  · rw [(List.mem_replicate.1 h).2]; rfl
theorem made_eq (m : Nat) : madeCells #[.pointer none, .int .i64 0, .int .i64 0, .int .u8 0, .int .i64 0] (m * 5) = mixCells [] m := by
  apply Array.ext'
  unfold madeCells mixCells
  apply List.ext_getElem?
  intro t
  simp only [Array.toList_map, Array.toList_range, List.map_nil, List.nil_append, List.getElem?_map]
  by_cases ht : t < m * 5
  · rw [List.getElem?_range ht]
    have hi : (List.replicate m zeroPt)[t / 5]? = some zeroPt := by rw [List.getElem?_replicate, if_pos (by omega)]
    have := flat_get (L := List.replicate m zeroPt) (n := 5) (by intro x hx; rw [(List.mem_replicate.1 hx).2]; rfl) hi (j := t % 5) (by omega)
    rw [show t / 5 * 5 + t % 5 = t from by omega] at this
    rw [this]
    simp only [Option.map_some]
    have h5 : t % 5 < 5 := by omega
    rcases (show t % 5 = 0 ∨ t % 5 = 1 ∨ t % 5 = 2 ∨ t % 5 = 3 ∨ t % 5 = 4 from by omega) with e | e | e | e | e <;> simp [e, zeroPt]
  · rw [List.getElem?_eq_none (by simp; omega), List.getElem?_eq_none]
    · rfl
    · have : ∀ (L : List (List Value)), (∀ x ∈ L, x.length = 5) → L.flatten.length = L.length * 5 := by
        intro L hL
        induction L with
        | nil => rfl
        | cons x L ih => rw [List.flatten_cons, List.length_append, hL x (by simp), ih (fun y hy => hL y (by simp [hy])), List.length_cons]; omega
      rw [this _ (by intro x hx; rw [(List.mem_replicate.1 hx).2]; rfl), List.length_replicate]; omega
theorem mix_set {ps : List Pt} {m : Nat} {p : Pt} (hp : p.cells = .pointer (some ⟨p.a.g, 0, none⟩) :: zeroPt.tail) : (mixCells ps (m + 1)).setIfInBounds (ps.length * 5) (.pointer (some ⟨p.a.g, 0, none⟩)) = mixCells (ps ++ [p]) m := by
  apply Array.ext'
  unfold mixCells
  rw [Array.toList_setIfInBounds]
  show ((ps.map Pt.cells) ++ List.replicate (m + 1) zeroPt).flatten.set _ _ = _
  have := flat_set (mix_len ps (m + 1)) (i := ps.length) (j := 0) (x := zeroPt) (by rw [List.getElem?_append_right (by simp)]; simp [List.replicate_succ]) (by omega) (.pointer (some ⟨p.a.g, 0, none⟩))
  simp only [Nat.add_zero, List.length_map] at this
  rw [this]
  rw [List.set_append_right _ _ (by simp)]
  simp only [List.length_map, Nat.sub_self, List.replicate_succ, List.set_cons_zero, List.map_append, List.map_cons, List.map_nil, List.append_assoc, List.cons_append, List.nil_append]
  rw [hp]; rfl
theorem mix_get (ps : List Pt) (m : Nat) : (mixCells ps (m + 1))[ps.length * 5]? = some (.pointer none) := by
  unfold mixCells
  rw [List.getElem?_toArray]
  have := flat_get (mix_len ps (m + 1)) (i := ps.length) (j := 0) (x := zeroPt) (by rw [List.getElem?_append_right (by simp)]; simp [List.replicate_succ]) (by omega)
  simp only [Nat.add_zero] at this
  rw [this]; rfl
theorem mix_done (ps : List Pt) : mixCells ps 0 = partCells ps := by unfold mixCells partCells; simp
/-- A part with an empty area and no fate. -/
def freshPt (g : Nat) : Pt := ⟨⟨g, none, 0, 0, [], 0⟩, 0, 0, 0, 0⟩
/-- The pieces of a disk that is being made. -/
def newPieces (g gp n : Nat) (ps : List Pt) (m : Nat) : List Item := Item.blk g 149 #[.slice (some ⟨gp, 0, none⟩) n n, .bool false] :: Item.blk gp 146 (mixCells ps m) :: ps.map (fun p => p.a.item)
theorem new_step {w w1 w2 : World} {g gp n m : Nat} {ps : List Pt} (t : Turn (Item.all []) w (Item.all (newPieces g gp n ps (m + 1))) w1) (hb : Below w1.heap.size w1 w2) (ha : (freshPt w1.heap.size).a.item.P w2) :
    Turn (Item.all []) w (Item.all (newPieces g gp n (ps ++ [freshPt w1.heap.size]) m)) (w2.setCell ⟨gp, ps.length * 5, none⟩ (.pointer (some ⟨w1.heap.size, 0, none⟩))) := by
  have t1 := Turn.new t.p hb ha (fun k hk => by
    obtain ⟨i, hi, hk⟩ := hk
    simp only [List.mem_cons, List.not_mem_nil, or_false] at hi
    rcases hi with rfl | rfl
    · have : k = w1.heap.size := hk
      omega
    · cases hk)
  have hx : ((freshPt w1.heap.size).a.item :: newPieces g gp n ps (m + 1))[2]? = some (Item.blk gp 146 (mixCells ps (m + 1))) := rfl
  have hblk : Blk w2 gp 146 (mixCells ps (m + 1)) := Item.all_get t1.p (List.mem_of_getElem? hx)
  have t2 := Turn.set t1.p hx (Turn.cell hblk (ps.length * 5) (.pointer (some ⟨w1.heap.size, 0, none⟩)))
  rw [show (Value.pointer (some ⟨w1.heap.size, 0, none⟩)) = .pointer (some ⟨(freshPt w1.heap.size).a.g, 0, none⟩) from rfl, mix_set (p := freshPt w1.heap.size) rfl] at t2
  refine ((t.trans t1).trans t2).permR ?_
  have e : (((freshPt w1.heap.size).a.item :: newPieces g gp n ps (m + 1)).set 2 (Item.blk gp 146 (mixCells (ps ++ [freshPt w1.heap.size]) m))) =
      (freshPt w1.heap.size).a.item :: Item.blk g 149 #[.slice (some ⟨gp, 0, none⟩) n n, .bool false] :: Item.blk gp 146 (mixCells (ps ++ [freshPt w1.heap.size]) m) :: ps.map (fun p => p.a.item) := rfl
  rw [e]
  unfold newPieces
  rw [List.map_append]
  refine ((List.Perm.swap _ _ _).trans ((List.Perm.swap _ _ _).cons _)).trans (((?_ : List.Perm _ _).cons _).cons _)
  exact (List.perm_append_singleton _ _).symm
set_option maxRecDepth 100000 in
set_option maxHeartbeats 1600000 in
theorem dNew_any {w : World} (n : Nat) (h1 : 1 ≤ n) (h16 : n ≤ 16) :
    Calls Tryz.prog 41 #[.int .i64 n] w fun e w' => ∃ d : Dk, d.armed = false ∧ d.ps.length = n ∧ (∀ p ∈ d.ps, p = freshPt p.a.g) ∧ e = .returned (.tuple #[.pointer (some ⟨d.g, 0, none⟩), .int .i64 0]) ∧ Turn (Item.all []) w d.item w' := by
  have n1 : (1 : Int) ≤ (n : Int) := by omega
  have n2 : (n : Int) ≤ 16 := by omega
  obtain ⟨i0, hi0, hi1⟩ := Option.map_eq_some_iff.1 info_part
  simp only [Prod.mk.injEq] at hi1
  obtain ⟨hz, hs, hby⟩ := hi1
  obtain ⟨z, hz0, hzc⟩ := Option.map_eq_some_iff.1 hz
  have hm : ∀ w : World, (Instr.makeSlice 147 (.int .i64 n) (.int .i64 n)).run Tryz.prog w = .ok (.slice (some ⟨w.heap.size, 0, none⟩) n n) (w.alloc (.cells (mixCells [] n) 146)) := by
    intro w
    have := run_makeSlice (P := Tryz.prog) w 147 146 i0 z Tryz.underlying147 hi0 hz0 .i64 .i64 n n (by omega) (Int.le_refl _) (by rw [hs]; omega) (by rw [hby]; omega) (by omega)
    rw [hs, hzc, Int.toNat_natCast, made_eq] at this
    exact this
  clear hz hs hby hz0 hzc hi0
  have T0 := Lib.hid (show Turn (Item.all []) w (Item.all (newPieces (w.heap.size + 1) w.heap.size n [] n)) ((w.alloc (.cells (mixCells [] n) 146)).alloc (.cells #[.slice (some ⟨w.heap.size, 0, none⟩) n n, .bool false] 149)) from by
    have p0 : (Item.all []).P w := ⟨fun i hi => (by cases hi), List.Pairwise.nil⟩
    have t1 := Turn.new (y := Item.blk w.heap.size 146 (mixCells [] n)) p0 ((Below.refl _ _).alloc (Nat.le_refl _) (.cells (mixCells [] n) 146)) (Blk.new w _ _) (fun k hk => by have : k = w.heap.size := hk; omega)
    have hb2 := Blk.new (w.alloc (.cells (mixCells [] n) 146)) 149 #[.slice (some ⟨w.heap.size, 0, none⟩) n n, .bool false]
    have t2 := Turn.new (y := Item.blk (w.heap.size + 1) 149 #[.slice (some ⟨w.heap.size, 0, none⟩) n n, .bool false]) t1.p ((Below.refl _ _).alloc (Nat.le_refl _) (.cells #[.slice (some ⟨w.heap.size, 0, none⟩) n n, .bool false] 149)) (show Blk _ (w.heap.size + 1) _ _ from by simpa using hb2) (fun k hk => by have : k = w.heap.size + 1 := hk; simp; omega)
    exact t1.trans t2)
  go_enter Tryz.func41, Tryz.ntmps41
  go_upto_region 4 with fail
  obtain ⟨W, hW⟩ : ∃ W, W = (w.alloc (.cells (mixCells [] n) 146)).alloc (.cells #[.slice (some ⟨w.heap.size, 0, none⟩) n n, .bool false] 149) := ⟨_, rfl⟩
  obtain ⟨g, hg⟩ : ∃ g, g = w.heap.size + 1 := ⟨_, rfl⟩
  obtain ⟨gp, hgp⟩ : ∃ g, g = w.heap.size := ⟨_, rfl⟩
  rw [← hW, ← hg, ← hgp] at T0
  rw [← hW, ← hg, ← hgp]
  clear hW hg hgp hm
  have q0 := (show Blk W g 149 _ from Item.all_get T0.out.p (List.mem_cons_self ..)).cell 0
  simp at q0
  go_wp2
  clear q0
  go_loopw [21] (fun i wr => ∃ (K m : Nat) (ps : List Pt), i = .int .i64 K ∧ Hid (ps.length = K) ∧ K + m = n ∧ Hid (∀ p ∈ ps, p = freshPt p.a.g) ∧ Hid (Turn (Item.all []) w (Item.all (newPieces g gp n ps m)) wr)) (fun i _ => n - (intOf i).toNat)
  case atStart => exact ⟨0, n, [], rfl, Lib.hid rfl, by omega, Lib.hid (fun p hp => by cases hp), T0⟩
  case round =>
    obtain ⟨K, m, ps, rfl, hps, hKm, hfr, hT⟩ := hrel
    clear T0
    have hblk : Blk wr g 149 #[.slice (some ⟨gp, 0, none⟩) n n, .bool false] := Item.all_get hT.out.p (List.mem_cons_self ..)
    have hpb : Blk wr gp 146 (mixCells ps m) := Item.all_get hT.out.p (List.mem_cons_of_mem _ (List.mem_cons_self ..))
    have hne : ¬ g = gp := (List.pairwise_cons.1 hT.out.p.2).1 _ (List.mem_cons_self ..) g rfl
    have hnp : (⟨gp, K * 5, none⟩ : Addr) ≠ ⟨g, 0, none⟩ := fun e => hne (by injection e with e _; exact e.symm)
    by_cases hlt : (K : Int) < (n : Int)
    · obtain ⟨m', rfl⟩ : ∃ m', m = m' + 1 := ⟨m - 1, by omega⟩
      have y0 : wr.drew.cell? ⟨g, 0, none⟩ = some (.slice (some ⟨gp, 0, none⟩) n n) := by have := hblk.cell 0; simpa using this
      have HGL := Lib.hid hblk.lt
      have HPB := Lib.hid hpb
      have HTD := Lib.hid (hT.out.go (Below.refl _ _).drew)
      have HMG := Lib.hid (show (mixCells ps (m' + 1))[K * 5]? = some (.pointer none) from by rw [← hps.out]; exact mix_get ps m')
      have hKn : K < n := by omega
      have hKm' : K + 1 + m' = n := by omega
      clear hblk hpb hT hKm
      go_upto_region 7 with fail
      go_region_held3 (fun w' => w'.cell? ⟨g, 0, none⟩ = some (.slice (some ⟨gp, 0, none⟩) n n)) (first | (with_reducible exact y0) | (with_reducible exact z0) | (exact (World.cell?_setCell_other w2 ⟨gp, K * 5, none⟩ ⟨g, 0, none⟩ _ hnp).trans z0) | go_keep) ((go_at_call 98; refine aNew_any.mono ?_; rintro e w2 ⟨rfl, hP, hb⟩; have HP := Lib.hid hP; have HB := Lib.hid hb; have z0 := (hb.cell (p := ⟨g, 0, none⟩) HGL.out).trans y0; have z1 := (HPB.out.drewN 1).below' (w' := w2) hb; have fz := z1.frozen (K * 5); have cz := z1.cell (K * 5); rw [HMG.out] at cz; clear hP hb z1))
      have HT2 := Lib.hid (new_step HTD.out HB.out HP.out)
      rw [hps.out] at HT2
      have HF2 := Lib.hid (show ∀ p ∈ ps ++ [freshPt wr.drew.heap.size], p = freshPt p.a.g from by
        intro p hp
        rcases List.mem_append.1 hp with h | h
        · exact hfr.out p h
        · simp only [List.mem_cons, List.not_mem_nil, or_false] at h; subst h; rfl)
      have HL2 := Lib.hid (show (ps ++ [freshPt wr.drew.heap.size]).length = K + 1 from by rw [List.length_append, hps.out]; rfl)
      clear HP HB z0 fz cz HTD HPB hfr
      go_wp2
      exact ⟨⟨K + 1, m', _, by go_num, HL2, hKm', HF2, HT2⟩, by simp [intOf]; omega⟩
    · obtain rfl : m = 0 := by omega
      have HPS := Lib.hid (show ps.length = n from by rw [hps.out]; omega)
      have HT2 := hT
      clear hblk hpb hT
      go_wp2
      go_ret2
      refine ⟨⟨g, gp, false, ps⟩, rfl, HPS.out, hfr.out, rfl, ?_⟩
      have := HT2.out
      unfold newPieces at this
      rw [mix_done] at this
      unfold Dk.item Dk.pieces
      rw [HPS.out]
      exact this
end Go.Proofs.YtmnpchncmbnddaaGreat
/- Logs: Open, Sync, Cut, Trim, Bounds, by contract (printed by a program of this claim's own). -/
namespace Go.Proofs.YtmnpchncmbnddaaGreat
open Go.RowKit

def logCells (d : Dk) (i : Nat) : Array Value := #[.pointer (some ⟨d.g, 0, none⟩), .int .i64 i]
/-- A log and its disk. -/
def lgItem (gl : Nat) (d : Dk) (i : Nat) : Item := Item.all [Item.blk gl 151 (logCells d i), d.item]
theorem lg_blk {w : World} {gl i : Nat} {d : Dk} (h : (lgItem gl d i).P w) : Blk w gl 151 (logCells d i) := Item.all_get h (List.mem_cons_self ..)
theorem lg_disk {w : World} {gl i : Nat} {d : Dk} (h : (lgItem gl d i).P w) : d.item.P w := Item.all_get (x := d.item) h (by simp)
/-- An operation of the log's area was carried out. -/
def LogPost (gl : Nat) (d : Dk) (i : Nat) (p : Pt) (w : World) (R : Ar → Prop) (e : Ending) (w' : World) : Prop :=
  ∃ b, R b ∧ b.g = p.a.g ∧ e = .returned (.int .i64 0) ∧ Turn (lgItem gl d i) w (lgItem gl (d.put i { p with a := b, done := p.done + 1 }) i) w'
theorem lg_turn {w w' : World} {gl i : Nat} {d d' : Dk} (h : (lgItem gl d i).P w) (t : Turn d.item w d'.item w') (hg : d'.g = d.g) : Turn (lgItem gl d i) w (lgItem gl d' i) w' := by
  unfold lgItem logCells
  rw [hg]
  exact Turn.second h t
set_option maxRecDepth 100000 in
set_option maxHeartbeats 1600000 in
theorem lOpen_any {w : World} {d : Dk} (h : d.item.P w) (hn : d.ps.length ≤ 16) (i : Nat) {p : Pt} (hi0 : d.ps[i]? = some p) (hb0 : 0 ≤ p.a.base) (hb1 : p.a.base ≤ 4611686018427387904) (hl : p.a.l.length ≤ 140737488355328) (hs : p.a.safe ≤ p.a.l.length) :
    Calls Tryz.prog 24 #[.pointer (some ⟨d.g, 0, none⟩), .int .i64 i] w fun e w' => ∃ gl, w.heap.size ≤ gl ∧ e = .returned (.tuple #[.pointer (some ⟨gl, 0, none⟩), .int .i64 0]) ∧ Blk w' gl 151 (logCells d i) ∧ Below w.heap.size w w' := by
  have hx := dBounds_any h hn i hi0 hb0 hb1 hl hs
  have HX := Lib.hid hx
  clear hx h hi0
  go_enter Tryz.func24, Tryz.ntmps24
  go_wp2_with fail
  refine HX.out.mono ?_
  rintro e w1 ⟨rfl, hb⟩
  have HB := Lib.hid (hb.alloc hb.size (.cells #[.pointer (some ⟨d.g, 0, none⟩), .int .i64 i] 151))
  have HK := Lib.hid (Blk.new w1 151 #[.pointer (some ⟨d.g, 0, none⟩), .int .i64 i])
  have HS := Lib.hid hb.size
  clear hb
  go_wp2
  go_ret2
  exact ⟨w1.heap.size, HS.out, rfl, HK.out, HB.out⟩
set_option maxRecDepth 100000 in
set_option maxHeartbeats 1600000 in
theorem lCut_any {w : World} {gl : Nat} {d : Dk} (i : Nat) {p : Pt} (h : (lgItem gl d i).P w) (hn : d.ps.length ≤ 16) (hi0 : d.ps[i]? = some p) (hd0 : 0 ≤ p.done) (hd1 : p.done ≤ 1000000000000000000) (hgo : d.armed = true → p.done < p.fd) {k : Nat} (hk : k ≤ p.a.l.length) (hs : p.a.safe ≤ p.a.l.length) (hb0 : 0 ≤ p.a.base) (hb1 : p.a.base ≤ 4611686018427387904) (hl : p.a.l.length ≤ 140737488355328) :
    Calls Tryz.prog 84 #[.pointer (some ⟨gl, 0, none⟩), .int .i64 (p.a.base + k)] w (LogPost gl d i p w (fun a' => a' = p.a.cut k)) := by
  have y0 : w.drew.cell? ⟨gl, 0, none⟩ = some (.pointer (some ⟨d.g, 0, none⟩)) := by have := (lg_blk h).cell 0; simpa [logCells] using this
  have y1 : w.drew.cell? ⟨gl, 1, none⟩ = some (.int .i64 i) := by have := (lg_blk h).cell 1; simpa [logCells] using this
  have H := Lib.hid (Item.go h (Below.refl _ _).drew)
  have hx := dCut_any (lg_disk H.out) hn i hi0 hd0 hd1 hgo hk hs hb0 hb1 hl
  have HX := Lib.hid hx
  clear hx h hi0 hgo
  go_enter Tryz.func84, Tryz.ntmps84
  go_upto_region 3 with fail
  go_region_held3 (fun w' => w'.cell? ⟨gl, 0, none⟩ = some (.pointer (some ⟨d.g, 0, none⟩)) ∧ w'.cell? ⟨gl, 1, none⟩ = some (.int .i64 i)) (first | (with_reducible exact ⟨y0, y1⟩) | (with_reducible exact ⟨z0, z1⟩) | go_keep) ((go_at_call 140; refine HX.out.mono ?_; rintro e w2 ⟨b', hR, hg, rfl, t⟩; have TT := Lib.hid (lg_turn H.out t rfl); have z0 : w2.cell? ⟨gl, 0, none⟩ = some (.pointer (some ⟨d.g, 0, none⟩)) := (by have := (lg_blk TT.out.p).cell 0; simpa [logCells, Dk.put] using this); have z1 : w2.cell? ⟨gl, 1, none⟩ = some (.int .i64 i) := (by have := (lg_blk TT.out.p).cell 1; simpa [logCells] using this); have HR := Lib.hid hR; have HG := Lib.hid hg; clear hR hg t))
  go_wp2
  go_ret
  exact ⟨b', HR.out, HG.out, rfl, Turn.pre (Below.refl _ _).drew TT.out⟩
set_option maxRecDepth 100000 in
set_option maxHeartbeats 1600000 in
theorem lCut_down {w : World} {gl : Nat} {d : Dk} (i : Nat) {p : Pt} (h : (lgItem gl d i).P w) (hn : d.ps.length ≤ 16) (hi0 : d.ps[i]? = some p) (hd0 : 0 ≤ p.done) (hd1 : p.done ≤ 1000000000000000000) (ha : d.armed = true) (hdn : p.fd ≤ p.done) {k : Nat} :
    Calls Tryz.prog 84 #[.pointer (some ⟨gl, 0, none⟩), .int .i64 (p.a.base + k)] w fun e w' => e = .returned (.int .i64 80) ∧ Below w.heap.size w w' := by
  have y0 : w.drew.cell? ⟨gl, 0, none⟩ = some (.pointer (some ⟨d.g, 0, none⟩)) := by have := (lg_blk h).cell 0; simpa [logCells] using this
  have y1 : w.drew.cell? ⟨gl, 1, none⟩ = some (.int .i64 i) := by have := (lg_blk h).cell 1; simpa [logCells] using this
  have H := Lib.hid (Item.go h (Below.refl _ _).drew)
  have HL := Lib.hid (show gl < w.drew.heap.size from (lg_blk h).lt)
  have hx := dCut_down (k := k) (lg_disk H.out) hn i hi0 hd0 hd1 ha hdn
  have HX := Lib.hid hx
  clear hx h hi0 ha
  go_enter Tryz.func84, Tryz.ntmps84
  go_upto_region 3 with fail
  go_region_held3 (fun w' => w'.cell? ⟨gl, 0, none⟩ = some (.pointer (some ⟨d.g, 0, none⟩)) ∧ w'.cell? ⟨gl, 1, none⟩ = some (.int .i64 i)) (first | (with_reducible exact ⟨y0, y1⟩) | (with_reducible exact ⟨z0, z1⟩) | go_keep) ((go_at_call 140; refine HX.out.mono ?_; rintro e w2 ⟨rfl, hb⟩; have HB := Lib.hid hb; have z0 := (hb.cell (p := ⟨gl, 0, none⟩) HL.out).trans y0; have z1 := (hb.cell (p := ⟨gl, 1, none⟩) HL.out).trans y1; clear hb))
  go_wp2
  go_ret
  exact ⟨rfl, ((Below.refl w.heap.size w).drew).trans HB.out⟩
set_option maxRecDepth 100000 in
set_option maxHeartbeats 1600000 in
theorem lBounds_any {w : World} {gl : Nat} {d : Dk} (i : Nat) {p : Pt} (h : (lgItem gl d i).P w) (hn : d.ps.length ≤ 16) (hi0 : d.ps[i]? = some p) (hb0 : 0 ≤ p.a.base) (hb1 : p.a.base ≤ 4611686018427387904) (hl : p.a.l.length ≤ 140737488355328) (hs : p.a.safe ≤ p.a.l.length) :
    Calls Tryz.prog 46 #[.pointer (some ⟨gl, 0, none⟩)] w fun e w' => e = .returned (.tuple #[.int .i64 p.a.base, .int .i64 (p.a.base + p.a.safe), .int .i64 (p.a.base + p.a.l.length)]) ∧ Below w.heap.size w w' := by
  have y0 : w.drew.cell? ⟨gl, 0, none⟩ = some (.pointer (some ⟨d.g, 0, none⟩)) := by have := (lg_blk h).cell 0; simpa [logCells] using this
  have y1 : w.drew.cell? ⟨gl, 1, none⟩ = some (.int .i64 i) := by have := (lg_blk h).cell 1; simpa [logCells] using this
  have H := Lib.hid (Item.go h (Below.refl _ _).drew)
  have HL := Lib.hid (show gl < w.drew.heap.size from (lg_blk h).lt)
  have hx := dBounds_any (lg_disk H.out) hn i hi0 hb0 hb1 hl hs
  have HX := Lib.hid hx
  clear hx h hi0
  go_enter Tryz.func46, Tryz.ntmps46
  go_upto_region 3 with fail
  go_region_held3 (fun w' => w'.cell? ⟨gl, 0, none⟩ = some (.pointer (some ⟨d.g, 0, none⟩)) ∧ w'.cell? ⟨gl, 1, none⟩ = some (.int .i64 i)) (first | (with_reducible exact ⟨y0, y1⟩) | (with_reducible exact ⟨z0, z1⟩) | go_keep) ((go_at_call 58; refine HX.out.mono ?_; rintro e w2 ⟨rfl, hb⟩; have HB := Lib.hid hb; have z0 := (hb.cell (p := ⟨gl, 0, none⟩) HL.out).trans y0; have z1 := (hb.cell (p := ⟨gl, 1, none⟩) HL.out).trans y1; clear hb))
  go_wp2
  go_ret3
  exact ⟨rfl, ((Below.refl w.heap.size w).drew).trans HB.out⟩
end Go.Proofs.YtmnpchncmbnddaaGreat
