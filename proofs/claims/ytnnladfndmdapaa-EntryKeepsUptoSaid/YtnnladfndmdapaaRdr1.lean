/- The reader's inner functions: reading$1 (the deferred closure), take. -/
import Derived.Test.YtnnladfndmdapaaPutN
import Derived.Recover
import Derived.Deep.QuietTactic
import Derived.BigQuiet
namespace Go.Proofs.Ytnnladfndmdapaa
open Go.RowKit

/-- Block g of w is just the cells cs of element type t, none of them frozen. -/
def Blk (w : World) (g : Nat) (t : TypeId) (cs : Array Value) : Prop := w.heap[g]? = some (.cells cs t (0, 0))
section
variable {w w' : World} {g : Nat} {t : TypeId} {cs : Array Value}
theorem Blk.lt (h : Blk w g t cs) : g < w.heap.size := by
  rcases Nat.lt_or_ge g w.heap.size with hlt | hge
  · exact hlt
  · unfold Blk at h; rw [Array.getElem?_eq_none hge] at h; cases h
theorem Blk.cell (h : Blk w g t cs) (i : Nat) : w.cell? ⟨g, i, none⟩ = cs[i]? := cell_of_row w g i cs t (0, 0) h
theorem Blk.frozen (h : Blk w g t cs) (i : Nat) : w.frozen? ⟨g, i, none⟩ = false := by
  unfold Blk at h
  simp [World.frozen?, h]
theorem Blk.new (w : World) (t : TypeId) (cs : Array Value) : Blk (w.alloc (.cells cs t)) w.heap.size t cs := heap_alloc_new w _
theorem Blk.drewN (h : Blk w g t cs) (n : Nat) : Blk (w.drewN n) g t cs := h
theorem Blk.alloc (h : Blk w g t cs) (o : Obj) : Blk (w.alloc o) g t cs := (Below.heap_alloc w o g h.lt).trans h
theorem Blk.set_ (h : Blk w g t cs) (i : Nat) (u : Value) : Blk (w.setCell ⟨g, i, none⟩ u) g t (cs.setIfInBounds i u) := by
  unfold Blk at h ⊢
  simp [World.setCell, Array.getElem?_modify, h]
theorem Blk.far (h : Blk w g t cs) {p : Addr} (hp : g ≠ p.block) (u : Value) : Blk (w.setCell p u) g t cs := (Below.heap_setCell w p u g hp).trans h
theorem Blk.below {B : Nat} (h : Blk w g t cs) (hb : Below B w w') (hg : g < B) : Blk w' g t cs := (hb.block g hg).trans h
end

/-- The type switch's closure, where the frame below returns: nothing is turned. -/
theorem reading1_idle (p q : Addr) (w : World) :
    CallsD Try.prog 114 #[.pointer (some p), .pointer (some q)] .returning w fun e u' w' => e = .returned (.tuple #[]) ∧ u' = .returning ∧ w' = w := by
  refine callsD_of_wpS Try.func114 rfl fun c₀ cs hu => ?_
  simp only [Try.ntmps114, List.size_toArray, List.length_cons, List.length_nil, Nat.reduceAdd, Nat.reduceSub, Array.replicate_succ, Array.replicate_zero, List.push_toArray, List.append_toArray, List.nil_append, List.cons_append]
  apply wpS_seq
  apply wpS_region
  simp [wpOpsS, go_sem, recoverD, hu, Exit.thenS]
  refine wpS_of_wp ?_
  have HU := Lib.hid hu
  clear hu
  generalize hQ : bodyPostS Try.prog Try.f114 c₀ cs _ = Q
  have HQ := Lib.hid hQ
  clear hQ
  go_wp2
  rw [← HQ.out]
  cases c₀
  simp only at HU
  simp_all [bodyPostS, results, Try.results114, Hid]
theorem assert_errno (m : Int) (w : World) : (Instr.typeAssert (.iface 26 (.int .i64 m)) 20 26 true).run Try.prog w = .ok (.tuple #[.int .i64 m, .bool true]) w := by
  simp [Instr.typeAssert, run_underlying Try.underlying26]
set_option maxRecDepth 100000 in
theorem reading1_catch (b r g : Nat) (n m : Int) (begin : Int) (older : List PanicEntry) (s : Value) (w : World)
    (hb : Blk w b 3 #[.int .i64 begin]) (hr : Blk w r 99 #[.pointer (some ⟨g, 0, none⟩)]) (hg : Blk w g 137 #[s, .int .i64 n, .int .i64 0]) :
    CallsD Try.prog 114 #[.pointer (some ⟨b, 0, none⟩), .pointer (some ⟨r, 0, none⟩)] (.panicking ({ v := .iface 26 (.int .i64 m), recovered := false } :: older)) w fun e u' w' =>
      e = .returned (.tuple #[]) ∧ u' = .panicking ({ v := .iface 26 (.int .i64 m), recovered := true } :: older) ∧ w' = (w.setCell ⟨g, 1, none⟩ (.int .i64 begin)).setCell ⟨g, 2, none⟩ (.int .i64 m) := by
  have hta := assert_errno
  have h1 := hb.cell 0
  have h2 := hr.cell 0
  have h3 := hg.cell 1
  have h4 := hg.cell 2
  have f3 := hg.frozen 1
  have f4 := hg.frozen 2
  simp at h1 h2 h3 h4
  refine callsD_of_wpS Try.func114 rfl fun c₀ cs hu => ?_
  simp only [Try.ntmps114, List.size_toArray, List.length_cons, List.length_nil, Nat.reduceAdd, Nat.reduceSub, Array.replicate_succ, Array.replicate_zero, List.push_toArray, List.append_toArray, List.nil_append, List.cons_append]
  apply wpS_seq
  apply wpS_region
  simp [wpOpsS, go_sem, recoverD, hu, Exit.thenS]
  refine wpS_of_wp ?_
  have HU := Lib.hid hu
  clear hu
  generalize hQ : bodyPostS Try.prog Try.f114 c₀ cs _ = Q
  have HQ := Lib.hid hQ
  clear hQ
  go_wp2
  rw [← HQ.out]
  cases c₀
  simp [bodyPostS, results, Try.results114]

/-- The panic that gives up with error m. -/
def gaveUp (m : Int) : Ending := .panicked [{ v := .iface 26 (.int .i64 m), recovered := false }]
/-- The slice A of the bytes l lies in a block of bytes. -/
def Ours (w : World) (A : Option Addr) (l : List UInt8) : Prop := 0 < l.length → ∃ b o cur fr, A = some ⟨b, o, none⟩ ∧ w.heap[b]? = some (.cells cur 5 fr)
theorem Ours.keep {w w' : World} {B : Nat} {A : Option Addr} {l : List UInt8} (h : Ours w A l) (hr : BReads w B A l) (hk : ∀ i, i < B → w'.heap[i]? = w.heap[i]?) : Ours w' A l := fun hp => by
  obtain ⟨b, o, cur, fr, e, hh⟩ := h hp
  obtain ⟨b', o', e', hb, _⟩ := hr.2 hp
  rw [e] at e'
  injection e' with e'
  injection e' with e' _ _
  subst e'
  exact ⟨b, o, cur, fr, e, (hk b hb).trans hh⟩
/-- A reader in block g: its bytes (the slice A of capacity c, which reads as l), its place, its fault. -/
structure RdAt (w : World) (g : Nat) (A : Option Addr) (c : Nat) (l : List UInt8) (at_ : Nat) (fault : Int) : Prop where
  blk : Blk w g 137 #[.slice A l.length c, .int .i64 at_, .int .i64 fault]
  reads : BReads w g A l
  cap : l.length ≤ c
  le : at_ ≤ l.length
  small : l.length ≤ 140737488355328
  ours : Ours w A l

theorem drewN_grown (w : World) (m : Nat) (row : Option Nat) : w.grownBy (w.drewN m) row := ⟨rfl, rfl, rfl, Nat.le_refl _, fun _ _ _ => rfl⟩
theorem grown_trans {a b c : World} {row : Option Nat} (h : a.grownBy b row) (k : b.grownBy c row) : a.grownBy c row :=
  ⟨k.os.trans h.os, k.tape.trans h.tape, k.output.trans h.output, Nat.le_trans h.size k.size, fun i hi hn => (k.block i (Nat.lt_of_lt_of_le hi h.size) hn).trans (h.block i hi hn)⟩
theorem grown_setCell (w : World) (g o : Nat) (u : Value) : w.grownBy (w.setCell ⟨g, o, none⟩ u) (some g) :=
  ⟨rfl, rfl, rfl, by simp [World.setCell], fun k _ hk => Below.heap_setCell w _ u k (fun e => hk (by rw [e]))⟩

theorem RdAt.drewN {w : World} {g : Nat} {A : Option Addr} {c : Nat} {l : List UInt8} {at_ : Nat} {f : Int} (h : RdAt w g A c l at_ f) (m : Nat) : RdAt (w.drewN m) g A c l at_ f := ⟨h.blk, h.reads, h.cap, h.le, h.small, h.ours⟩
theorem RdAt.moved {w : World} {g : Nat} {A : Option Addr} {c : Nat} {l : List UInt8} {at_ : Nat} {f : Int} (h : RdAt w g A c l at_ f) (a b k : Nat) {v : Int} (hv : v = (k : Int)) (hk : k ≤ l.length) :
    RdAt (((w.drewN a).setCell ⟨g, 1, none⟩ (.int .i64 v)).drewN b) g A c l k f := by
  subst hv
  refine ⟨?_, ?_, h.cap, hk, h.small, h.ours.keep h.reads (fun i hi => Below.heap_setCell (w.drewN a) _ _ i (by show i ≠ g; omega))⟩
  · have := (h.blk.drewN a).set_ 1 (.int .i64 (k : Int))
    exact (show Blk ((w.drewN a).setCell ⟨g, 1, none⟩ (.int .i64 (k : Int))) g _ _ from by simpa using this)
  · exact (Reads.setCell (w := w.drewN a) (p := ⟨g, 1, none⟩) h.reads (Nat.le_refl _) _)
theorem reads_sub {w : World} {B : Nat} {A : Option Addr} {l : List UInt8} (h : BReads w B A l) {at_ n c : Nat} (hn : at_ + n ≤ l.length) (hc : l.length ≤ c) :
    BReads w B (if c = at_ then A else A.map (·.add at_)) ((l.drop at_).take n) := by
  have hlen : ((l.drop at_).take n).length = n := by rw [List.length_take, List.length_drop]; omega
  refine ⟨by rw [bys_length, Nat.mul_one], fun hp => ?_⟩
  rw [hlen] at hp
  obtain ⟨b, off, rfl, hb, hcell⟩ := h.2 (by omega)
  rw [if_neg (by omega)]
  refine ⟨b, off + at_, by rw [Option.map_some, add_lit0], hb, fun j u hu => ?_⟩
  rw [Nat.add_assoc]
  refine hcell (at_ + j) u ?_
  have hj : j < n := by have := (List.getElem?_eq_some_iff.1 hu).1; rw [bys_length, hlen] at this; exact this
  rw [← hu, bys_get, bys_get, List.getElem?_take, if_pos hj, List.getElem?_drop]
theorem reads_sub_eq {w : World} {B : Nat} {A : Option Addr} {l : List UInt8} (h : BReads w B A l) {at_ n c : Nat} (hn : at_ + n ≤ l.length) (hc : l.length ≤ c) (e : c = at_) : BReads w B A ((l.drop at_).take n) := by
  have := reads_sub h hn hc; rwa [if_pos e] at this
theorem reads_sub_ne {w : World} {B : Nat} {A : Option Addr} {l : List UInt8} (h : BReads w B A l) {at_ n c : Nat} (hn : at_ + n ≤ l.length) (hc : l.length ≤ c) (e : ¬ c = at_) : BReads w B (A.map (·.add at_)) ((l.drop at_).take n) := by
  have := reads_sub h hn hc; rwa [if_neg e] at this

theorem take_cut {w : World} {g : Nat} {A : Option Addr} {c : Nat} {l : List UInt8} {at_ : Nat} {f : Int} (h : RdAt w g A c l at_ f) (n : Int) (hn : (l.length : Int) - at_ < n) :
    Calls Try.prog 95 #[.pointer (some ⟨g, 0, none⟩), .int .i64 n] w fun e w' => e = gaveUp 20 ∧ ∃ m, w' = w.drewN m := by
  have h0 := h.blk.cell 0
  have h1 := h.blk.cell 1
  have hs := h.small
  have hle := h.le
  simp at h0 h1
  go_enter Try.func95, Try.ntmps95
  go_wp2
  go_quiet (fail)
  go_wp2
  exact ⟨rfl, rfl, _, rfl⟩
theorem take_ok {w : World} {g : Nat} {A : Option Addr} {c : Nat} {l : List UInt8} {at_ : Nat} {f : Int} (HR : RdAt w g A c l at_ f) (n : Nat) (hn : at_ + n ≤ l.length) :
    Calls Try.prog 95 #[.pointer (some ⟨g, 0, none⟩), .int .i64 n] w fun e w' =>
      ∃ A', e = .returned (.slice A' n (c - at_)) ∧ Hid (RdAt w' g A c l (at_ + n) f) ∧ Hid (w.grownBy w' (some g)) ∧ Hid (BReads w' g A' ((l.drop at_).take n)) := by
  have h0 := HR.blk.cell 0
  have h1 := HR.blk.cell 1
  have hs := HR.small
  have hle := HR.le
  have hc := HR.cap
  have fz := HR.blk.frozen 1
  have hn' : ¬ ((l.length : Int) - at_ < n) := by omega
  simp at h0 h1
  go_enter Try.func95, Try.ntmps95
  go_wp2
  go_quiet (fail)
  go_wp2
  go_quiet (fail)
  go_wp2
  · have he := h
    go_ret
    subst he
    exact ⟨_, rfl, HR.moved _ _ (c + n) (by omega) (by omega), grown_trans (grown_trans (drewN_grown _ _ _) (grown_setCell _ _ _ _)) (drewN_grown _ _ _), reads_sub_eq (HR.moved _ _ (c + n) (by omega) (by omega)).reads hn hc rfl⟩
  · have he := h
    go_ret
    exact ⟨_, rfl, HR.moved _ _ (at_ + n) (by omega) (by omega), grown_trans (grown_trans (drewN_grown _ _ _) (grown_setCell _ _ _ _)) (drewN_grown _ _ _), reads_sub_ne (HR.moved _ _ (at_ + n) (by omega) (by omega)).reads hn hc he⟩
end Go.Proofs.Ytnnladfndmdapaa
