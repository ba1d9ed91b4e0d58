/- Contracts and plain laws that this claim leans on, laid together: PutN, Rdr1, PlainR, Rdr2, Rdr3, Rdr4. -/
import Derived.Test.YtnnladfndmdapaaG01
import Derived.Recover
import Derived.Deep.QuietTactic
import Derived.BigQuiet
set_option linter.all false
set_option linter.unusedVariables false
set_option linter.unusedSimpArgs false
set_option linter.unnecessarySimpa false
/- codec.width and codec.Put at every kind: contracts (printed by a program of this claim's own). -/
namespace Go.Proofs.Ytnnladfndmdapaa
open Go.RowKit
theorem pow256 (d : Nat) : ((256 ^ (d + 1) - 1 : Nat) : Int) / 256 = ((256 ^ d - 1 : Nat) : Int) := by
  have h : 0 < 256 ^ d := Nat.pow_pos (by decide)
  rw [Nat.pow_succ]; omega
theorem shr_byte (v d : Nat) {j : Int} (h : j = (d : Int)) : (v : Int) / 2 ^ (8 * j).toNat % 256 = ((v / 256 ^ d % 256 : Nat) : Int) := by
  subst h
  rw [show (8 * (d : Int)).toNat = 8 * d from by omega, show (256 : Nat) ^ d = 2 ^ (8 * d) from by rw [Nat.pow_mul]]
  have : ((2 : Int) ^ (8 * d)) = ((2 ^ (8 * d) : Nat) : Int) := by simp
  rw [this]; omega
theorem shr_byte' (v d : Nat) (hv : v < 256) {j : Int} (h : j = (d : Int)) : (v : Int) / 2 ^ (8 * j).toNat = ((v / 256 ^ d % 256 : Nat) : Int) := by
  rw [← shr_byte v d h]
  subst h
  have : ((2 : Int) ^ (8 * (d : Int)).toNat) = ((2 ^ (8 * (d : Int)).toNat : Nat) : Int) := by simp
  rw [this]
  have h := Nat.div_le_self v (2 ^ (8 * (d : Int)).toNat)
  rw [← Int.natCast_ediv]
  generalize v / 2 ^ (8 * (d : Int)).toNat = q at h ⊢
  omega
theorem width8_any {w : World} : Calls Try.prog 91 #[] w fun e w' => e = .returned (.int .i64 1) ∧ w = w' := by
  go_enter Try.func91, Try.ntmps91
  go_wp2
  go_loop [1, 2] (fun n u => ∃ k d : Nat, n = .int .i64 k ∧ u = .int .u64 ((256 ^ d - 1 : Nat) : Int) ∧ Hid (k + d = 1)) (fun n _ => 1 - (intOf n).toNat)
  case atStart => exact ⟨0, 1, rfl, rfl, Lib.hid rfl⟩
  case round =>
    obtain ⟨k, d, rfl, rfl, hd⟩ := hrel
    have hk2 : k ≤ 1 := by have := hd.out; omega
    cases d with
    | zero =>
      have hk : k = 1 := by have := hd.out; omega
      subst hk
      go_wp2
      go_ret
      exact ⟨rfl, rfl⟩
    | succ d =>
      have hp : 0 < 256 ^ d := Nat.pow_pos (by decide)
      have hb : (0 : Int) < ((256 ^ (d + 1) - 1 : Nat) : Int) := by rw [Nat.pow_succ]; omega
      obtain ⟨X, hX⟩ : ∃ X : Nat, X = 256 ^ (d + 1) - 1 := ⟨_, rfl⟩
      rw [← hX] at hb ⊢
      have HX := Lib.hid hX
      clear hX hp
      go_wp2
      go_round
      case rel => exact ⟨k + 1, d, by go_num, by rw [HX.out, pow256], Lib.hid (by have := hd.out; omega)⟩
      case measure => simp [intOf]; have := hd.out; omega
theorem put8_any {w : World} {B c : Nat} {A : Option Addr} {l : List UInt8} (v : Nat) (hr : BReads w B A l)
    (hv : v < 256) (hl : l.length ≤ 140737488355200) :
    Calls Try.prog 55 #[.slice A l.length c, .int .u8 v] w (GivesB w (l ++ beN 1 v)) := by
  have hv' : (v : Int) < 256 := by omega
  have HV := Lib.hid hv
  clear hv
  go_enter Try.func55, Try.ntmps55
  go_wp2_with fail
  refine (own_any hr (by omega)).mono ?_
  rintro e w1 h
  obtain ⟨L1, A1, c1, rfl, E1, O1, _, B1⟩ := h.named
  clear h
  go_wp2_with fail
  refine width8_any.mono ?_
  rintro e w2 ⟨rfl, rfl⟩
  go_wp2
  go_loopw [0, 5] (fun b i wr => ∃ (j : Int) (k d : Nat) (pre : List UInt8), i = .int .i64 j ∧ Hid (j = (d : Int) - 1) ∧ Hid (k + d = 1) ∧ Hid (beN 1 v = pre ++ beN d v) ∧ Hid (BOwns wr w.heap.size b (l ++ pre)) ∧ Hid (Below w.heap.size w wr)) (fun _ i _ => (intOf i + 1).toNat)
  case atStart => exact ⟨_, 0, 1, [], rfl, Lib.hid (by omega), Lib.hid (by omega), Lib.hid rfl, Lib.hid (by rw [List.append_nil, ← E1.out]; exact O1.out), B1⟩
  case round =>
    obtain ⟨j, k, d, pre, rfl, hj, hd, hpre, ho, hb⟩ := hrel
    by_cases h1 : 0 ≤ j
    · have h2 : j < 8 := by have := hd.out; have := hj.out; omega
      obtain ⟨d, rfl⟩ : ∃ d', d = d' + 1 := ⟨d - 1, by have := hj.out; omega⟩
      have hpl : (l ++ pre).length ≤ 140737488355300 := by
        have e := congrArg List.length hpre.out
        rw [List.length_append, beN_length, beN_length] at e
        rw [List.length_append]; omega
      go_wp2_with (at_builtin; refine Stop.of ?_)
      refine ⟨append_bytes (m := [UInt8.ofNat (v / 256 ^ d % 256)]) (ho.out.alloc _) (byte_src wr _ (by rw [u8_int _ (by omega)]; first | exact shr_byte v d (by have := hj.out; omega) | exact shr_byte' v d HV.out (by have := hj.out; omega))) (by simp only [List.length_cons, List.length_nil]; omega) (by have := hb.out.size; simp; omega) rfl rfl rfl rfl ?_⟩
      intro v' w3 ho1 hg1 _
      have HO := Lib.hid ho1
      have HB := Lib.hid (below_grown (hb.out.trans ((Below.refl _ _).alloc hb.out.size _)) (ho.out.alloc _) hg1)
      clear ho1 hg1 hpl
      go_wp2
      go_roundw
      case rel => exact ⟨_, k + 1, d, pre ++ [UInt8.ofNat (v / 256 ^ d % 256)], rfl, Lib.hid (by have := hj.out; omega), Lib.hid (by have := hd.out; omega), Lib.hid (by rw [hpre.out]; simp [beN]), Lib.hid (by rw [← List.append_assoc]; exact HO.out), HB⟩
      case measure => simp [intOf]; omega
    · go_wp2
      go_ret
      obtain rfl : d = 0 := by have := hj.out; omega
      exact ⟨_, rfl, by rw [hpre.out]; simpa [beN] using ho.out, hb.out⟩
theorem width32_any {w : World} : Calls Try.prog 118 #[] w fun e w' => e = .returned (.int .i64 4) ∧ w = w' := by
  go_enter Try.func118, Try.ntmps118
  go_wp2
  go_loop [1, 2] (fun n u => ∃ k d : Nat, n = .int .i64 k ∧ u = .int .u64 ((256 ^ d - 1 : Nat) : Int) ∧ Hid (k + d = 4)) (fun n _ => 4 - (intOf n).toNat)
  case atStart => exact ⟨0, 4, rfl, rfl, Lib.hid rfl⟩
  case round =>
    obtain ⟨k, d, rfl, rfl, hd⟩ := hrel
    have hk2 : k ≤ 4 := by have := hd.out; omega
    cases d with
    | zero =>
      have hk : k = 4 := by have := hd.out; omega
      subst hk
      go_wp2
      go_ret
      exact ⟨rfl, rfl⟩
    | succ d =>
      have hp : 0 < 256 ^ d := Nat.pow_pos (by decide)
      have hb : (0 : Int) < ((256 ^ (d + 1) - 1 : Nat) : Int) := by rw [Nat.pow_succ]; omega
      obtain ⟨X, hX⟩ : ∃ X : Nat, X = 256 ^ (d + 1) - 1 := ⟨_, rfl⟩
      rw [← hX] at hb ⊢
      have HX := Lib.hid hX
      clear hX hp
      go_wp2
      go_round
      case rel => exact ⟨k + 1, d, by go_num, by rw [HX.out, pow256], Lib.hid (by have := hd.out; omega)⟩
      case measure => simp [intOf]; have := hd.out; omega
theorem put32_any {w : World} {B c : Nat} {A : Option Addr} {l : List UInt8} (v : Nat) (hr : BReads w B A l)
    (hv : v < 4294967296) (hl : l.length ≤ 140737488355200) :
    Calls Try.prog 108 #[.slice A l.length c, .int .u32 v] w (GivesB w (l ++ beN 4 v)) := by
  have hv' : (v : Int) < 4294967296 := by omega
  have HV := Lib.hid hv
  clear hv
  go_enter Try.func108, Try.ntmps108
  go_wp2_with fail
  refine (own_any hr (by omega)).mono ?_
  rintro e w1 h
  obtain ⟨L1, A1, c1, rfl, E1, O1, _, B1⟩ := h.named
  clear h
  go_wp2_with fail
  refine width32_any.mono ?_
  rintro e w2 ⟨rfl, rfl⟩
  go_wp2
  go_loopw [0, 5] (fun b i wr => ∃ (j : Int) (k d : Nat) (pre : List UInt8), i = .int .i64 j ∧ Hid (j = (d : Int) - 1) ∧ Hid (k + d = 4) ∧ Hid (beN 4 v = pre ++ beN d v) ∧ Hid (BOwns wr w.heap.size b (l ++ pre)) ∧ Hid (Below w.heap.size w wr)) (fun _ i _ => (intOf i + 1).toNat)
  case atStart => exact ⟨_, 0, 4, [], rfl, Lib.hid (by omega), Lib.hid (by omega), Lib.hid rfl, Lib.hid (by rw [List.append_nil, ← E1.out]; exact O1.out), B1⟩
  case round =>
    obtain ⟨j, k, d, pre, rfl, hj, hd, hpre, ho, hb⟩ := hrel
    by_cases h1 : 0 ≤ j
    · have h2 : j < 8 := by have := hd.out; have := hj.out; omega
      obtain ⟨d, rfl⟩ : ∃ d', d = d' + 1 := ⟨d - 1, by have := hj.out; omega⟩
      have hpl : (l ++ pre).length ≤ 140737488355300 := by
        have e := congrArg List.length hpre.out
        rw [List.length_append, beN_length, beN_length] at e
        rw [List.length_append]; omega
      go_wp2_with (at_builtin; refine Stop.of ?_)
      refine ⟨append_bytes (m := [UInt8.ofNat (v / 256 ^ d % 256)]) (ho.out.alloc _) (byte_src wr _ (by rw [u8_int _ (by omega)]; first | exact shr_byte v d (by have := hj.out; omega) | exact shr_byte' v d HV.out (by have := hj.out; omega))) (by simp only [List.length_cons, List.length_nil]; omega) (by have := hb.out.size; simp; omega) rfl rfl rfl rfl ?_⟩
      intro v' w3 ho1 hg1 _
      have HO := Lib.hid ho1
      have HB := Lib.hid (below_grown (hb.out.trans ((Below.refl _ _).alloc hb.out.size _)) (ho.out.alloc _) hg1)
      clear ho1 hg1 hpl
      go_wp2
      go_roundw
      case rel => exact ⟨_, k + 1, d, pre ++ [UInt8.ofNat (v / 256 ^ d % 256)], rfl, Lib.hid (by have := hj.out; omega), Lib.hid (by have := hd.out; omega), Lib.hid (by rw [hpre.out]; simp [beN]), Lib.hid (by rw [← List.append_assoc]; exact HO.out), HB⟩
      case measure => simp [intOf]; omega
    · go_wp2
      go_ret
      obtain rfl : d = 0 := by have := hj.out; omega
      exact ⟨_, rfl, by rw [hpre.out]; simpa [beN] using ho.out, hb.out⟩
end Go.Proofs.Ytnnladfndmdapaa
/- The reader's inner functions: reading$1 (the deferred closure), take. -/
namespace Go.Proofs.Ytnnladfndmdapaa
open Go.RowKit

/-- Block g of w is just the cells cs of element type t, none of them frozen. -/
def Blk (w : World) (g : Nat) (t : TypeId) (cs : Array Value) : Prop := w.heap[g]? = some (.cells cs t (0, 0))
section
variable {w w' : World} {g : Nat} {t : TypeId} {cs : Array Value}
theorem Blk.lt (h : Blk w g t cs) : g < w.heap.size := by
  rcases Nat.lt_or_ge g w.heap.size with hlt | hge
  · exact hlt
  · unfold Blk at h; rw [Array.getElem?_eq_none hge] at h; cases h
theorem Blk.cell (h : Blk w g t cs) (i : Nat) : w.cell? ⟨g, i, none⟩ = cs[i]? := cell_of_row w g i cs t (0, 0) h
theorem Blk.frozen (h : Blk w g t cs) (i : Nat) : w.frozen? ⟨g, i, none⟩ = false := by
  unfold Blk at h
  simp [World.frozen?, h]
theorem Blk.new (w : World) (t : TypeId) (cs : Array Value) : Blk (w.alloc (.cells cs t)) w.heap.size t cs := heap_alloc_new w _
theorem Blk.drewN (h : Blk w g t cs) (n : Nat) : Blk (w.drewN n) g t cs := h
theorem Blk.alloc (h : Blk w g t cs) (o : Obj) : Blk (w.alloc o) g t cs := (Below.heap_alloc w o g h.lt).trans h
theorem Blk.set_ (h : Blk w g t cs) (i : Nat) (u : Value) : Blk (w.setCell ⟨g, i, none⟩ u) g t (cs.setIfInBounds i u) := by
  unfold Blk at h ⊢
  simp [World.setCell, Array.getElem?_modify, h]
theorem Blk.far (h : Blk w g t cs) {p : Addr} (hp : g ≠ p.block) (u : Value) : Blk (w.setCell p u) g t cs := (Below.heap_setCell w p u g hp).trans h
theorem Blk.below {B : Nat} (h : Blk w g t cs) (hb : Below B w w') (hg : g < B) : Blk w' g t cs := (hb.block g hg).trans h
end

/-- The type switch's closure, where the frame below returns: nothing is turned. -/
theorem reading1_idle (p q : Addr) (w : World) :
    CallsD Try.prog 114 #[.pointer (some p), .pointer (some q)] .returning w fun e u' w' => e = .returned (.tuple #[]) ∧ u' = .returning ∧ w' = w := by
  refine callsD_of_wpS Try.func114 rfl fun c₀ cs hu => ?_
  simp only [Try.ntmps114, List.size_toArray, List.length_cons, List.length_nil, Nat.reduceAdd, Nat.reduceSub, Array.replicate_succ, Array.replicate_zero, List.push_toArray, List.append_toArray, List.nil_append, List.cons_append]
  apply wpS_seq
  apply wpS_region
  simp [wpOpsS, go_sem, recoverD, hu, Exit.thenS]
  refine wpS_of_wp ?_
  have HU := Lib.hid hu
  clear hu
  generalize hQ : bodyPostS Try.prog Try.f114 c₀ cs _ = Q
  have HQ := Lib.hid hQ
  clear hQ
  go_wp2
  rw [← HQ.out]
  cases c₀
  simp only at HU
  simp_all [bodyPostS, results, Try.results114, Hid]
theorem assert_errno (m : Int) (w : World) : (Instr.typeAssert (.iface 26 (.int .i64 m)) 20 26 true).run Try.prog w = .ok (.tuple #[.int .i64 m, .bool true]) w := by
  simp [Instr.typeAssert, run_underlying Try.underlying26]
set_option maxRecDepth 100000 in
theorem reading1_catch (b r g : Nat) (n m : Int) (begin : Int) (older : List PanicEntry) (s : Value) (w : World)
    (hb : Blk w b 3 #[.int .i64 begin]) (hr : Blk w r 99 #[.pointer (some ⟨g, 0, none⟩)]) (hg : Blk w g 137 #[s, .int .i64 n, .int .i64 0]) :
    CallsD Try.prog 114 #[.pointer (some ⟨b, 0, none⟩), .pointer (some ⟨r, 0, none⟩)] (.panicking ({ v := .iface 26 (.int .i64 m), recovered := false } :: older)) w fun e u' w' =>
      e = .returned (.tuple #[]) ∧ u' = .panicking ({ v := .iface 26 (.int .i64 m), recovered := true } :: older) ∧ w' = (w.setCell ⟨g, 1, none⟩ (.int .i64 begin)).setCell ⟨g, 2, none⟩ (.int .i64 m) := by
  have hta := assert_errno
  have h1 := hb.cell 0
  have h2 := hr.cell 0
  have h3 := hg.cell 1
  have h4 := hg.cell 2
  have f3 := hg.frozen 1
  have f4 := hg.frozen 2
  simp at h1 h2 h3 h4
  refine callsD_of_wpS Try.func114 rfl fun c₀ cs hu => ?_
  simp only [Try.ntmps114, List.size_toArray, List.length_cons, List.length_nil, Nat.reduceAdd, Nat.reduceSub, Array.replicate_succ, Array.replicate_zero, List.push_toArray, List.append_toArray, List.nil_append, List.cons_append]
  apply wpS_seq
  apply wpS_region
  simp [wpOpsS, go_sem, recoverD, hu, Exit.thenS]
  refine wpS_of_wp ?_
  have HU := Lib.hid hu
  clear hu
  generalize hQ : bodyPostS Try.prog Try.f114 c₀ cs _ = Q
  have HQ := Lib.hid hQ
  clear hQ
  go_wp2
  rw [← HQ.out]
  cases c₀
  simp [bodyPostS, results, Try.results114]

/-- The panic that gives up with error m. -/
def gaveUp (m : Int) : Ending := .panicked [{ v := .iface 26 (.int .i64 m), recovered := false }]
/-- The slice A of the bytes l lies in a block of bytes. -/
def Ours (w : World) (A : Option Addr) (l : List UInt8) : Prop := 0 < l.length → ∃ b o cur fr, A = some ⟨b, o, none⟩ ∧ w.heap[b]? = some (.cells cur 5 fr)
theorem Ours.keep {w w' : World} {B : Nat} {A : Option Addr} {l : List UInt8} (h : Ours w A l) (hr : BReads w B A l) (hk : ∀ i, i < B → w'.heap[i]? = w.heap[i]?) : Ours w' A l := fun hp => by
  obtain ⟨b, o, cur, fr, e, hh⟩ := h hp
  obtain ⟨b', o', e', hb, _⟩ := hr.2 hp
  rw [e] at e'
  injection e' with e'
  injection e' with e' _ _
  subst e'
  exact ⟨b, o, cur, fr, e, (hk b hb).trans hh⟩
/-- A reader in block g: its bytes (the slice A of capacity c, which reads as l), its place, its fault. -/
structure RdAt (w : World) (g : Nat) (A : Option Addr) (c : Nat) (l : List UInt8) (at_ : Nat) (fault : Int) : Prop where
  blk : Blk w g 137 #[.slice A l.length c, .int .i64 at_, .int .i64 fault]
  reads : BReads w g A l
  cap : l.length ≤ c
  le : at_ ≤ l.length
  small : l.length ≤ 140737488355328
  ours : Ours w A l

theorem drewN_grown (w : World) (m : Nat) (row : Option Nat) : w.grownBy (w.drewN m) row := ⟨rfl, rfl, rfl, Nat.le_refl _, fun _ _ _ => rfl⟩
theorem grown_trans {a b c : World} {row : Option Nat} (h : a.grownBy b row) (k : b.grownBy c row) : a.grownBy c row :=
  ⟨k.os.trans h.os, k.tape.trans h.tape, k.output.trans h.output, Nat.le_trans h.size k.size, fun i hi hn => (k.block i (Nat.lt_of_lt_of_le hi h.size) hn).trans (h.block i hi hn)⟩
theorem grown_setCell (w : World) (g o : Nat) (u : Value) : w.grownBy (w.setCell ⟨g, o, none⟩ u) (some g) :=
  ⟨rfl, rfl, rfl, by simp [World.setCell], fun k _ hk => Below.heap_setCell w _ u k (fun e => hk (by rw [e]))⟩

theorem RdAt.drewN {w : World} {g : Nat} {A : Option Addr} {c : Nat} {l : List UInt8} {at_ : Nat} {f : Int} (h : RdAt w g A c l at_ f) (m : Nat) : RdAt (w.drewN m) g A c l at_ f := ⟨h.blk, h.reads, h.cap, h.le, h.small, h.ours⟩
theorem RdAt.moved {w : World} {g : Nat} {A : Option Addr} {c : Nat} {l : List UInt8} {at_ : Nat} {f : Int} (h : RdAt w g A c l at_ f) (a b k : Nat) {v : Int} (hv : v = (k : Int)) (hk : k ≤ l.length) :
    RdAt (((w.drewN a).setCell ⟨g, 1, none⟩ (.int .i64 v)).drewN b) g A c l k f := by
  subst hv
  refine ⟨?_, ?_, h.cap, hk, h.small, h.ours.keep h.reads (fun i hi => Below.heap_setCell (w.drewN a) _ _ i (by show i ≠ g; omega))⟩
  · have := (h.blk.drewN a).set_ 1 (.int .i64 (k : Int))
    exact (show Blk ((w.drewN a).setCell ⟨g, 1, none⟩ (.int .i64 (k : Int))) g _ _ from by simpa using this)
  · exact (Reads.setCell (w := w.drewN a) (p := ⟨g, 1, none⟩) h.reads (Nat.le_refl _) _)
theorem reads_sub {w : World} {B : Nat} {A : Option Addr} {l : List UInt8} (h : BReads w B A l) {at_ n c : Nat} (hn : at_ + n ≤ l.length) (hc : l.length ≤ c) :
    BReads w B (if c = at_ then A else A.map (·.add at_)) ((l.drop at_).take n) := by
  have hlen : ((l.drop at_).take n).length = n := by rw [List.length_take, List.length_drop]; omega
  refine ⟨by rw [bys_length, Nat.mul_one], fun hp => ?_⟩
  rw [hlen] at hp
  obtain ⟨b, off, rfl, hb, hcell⟩ := h.2 (by omega)
  rw [if_neg (by omega)]
  refine ⟨b, off + at_, by rw [Option.map_some, add_lit0], hb, fun j u hu => ?_⟩
  rw [Nat.add_assoc]
  refine hcell (at_ + j) u ?_
  have hj : j < n := by have := (List.getElem?_eq_some_iff.1 hu).1; rw [bys_length, hlen] at this; exact this
  rw [← hu, bys_get, bys_get, List.getElem?_take, if_pos hj, List.getElem?_drop]
theorem reads_sub_eq {w : World} {B : Nat} {A : Option Addr} {l : List UInt8} (h : BReads w B A l) {at_ n c : Nat} (hn : at_ + n ≤ l.length) (hc : l.length ≤ c) (e : c = at_) : BReads w B A ((l.drop at_).take n) := by
  have := reads_sub h hn hc; rwa [if_pos e] at this
theorem reads_sub_ne {w : World} {B : Nat} {A : Option Addr} {l : List UInt8} (h : BReads w B A l) {at_ n c : Nat} (hn : at_ + n ≤ l.length) (hc : l.length ≤ c) (e : ¬ c = at_) : BReads w B (A.map (·.add at_)) ((l.drop at_).take n) := by
  have := reads_sub h hn hc; rwa [if_neg e] at this

theorem take_cut {w : World} {g : Nat} {A : Option Addr} {c : Nat} {l : List UInt8} {at_ : Nat} {f : Int} (h : RdAt w g A c l at_ f) (n : Int) (hn : (l.length : Int) - at_ < n) :
    Calls Try.prog 95 #[.pointer (some ⟨g, 0, none⟩), .int .i64 n] w fun e w' => e = gaveUp 20 ∧ ∃ m, w' = w.drewN m := by
  have h0 := h.blk.cell 0
  have h1 := h.blk.cell 1
  have hs := h.small
  have hle := h.le
  simp at h0 h1
  go_enter Try.func95, Try.ntmps95
  go_wp2
  go_quiet (fail)
  go_wp2
  exact ⟨rfl, rfl, _, rfl⟩
theorem take_ok {w : World} {g : Nat} {A : Option Addr} {c : Nat} {l : List UInt8} {at_ : Nat} {f : Int} (HR : RdAt w g A c l at_ f) (n : Nat) (hn : at_ + n ≤ l.length) :
    Calls Try.prog 95 #[.pointer (some ⟨g, 0, none⟩), .int .i64 n] w fun e w' =>
      ∃ A', e = .returned (.slice A' n (c - at_)) ∧ Hid (RdAt w' g A c l (at_ + n) f) ∧ Hid (w.grownBy w' (some g)) ∧ Hid (BReads w' g A' ((l.drop at_).take n)) := by
  have h0 := HR.blk.cell 0
  have h1 := HR.blk.cell 1
  have hs := HR.small
  have hle := HR.le
  have hc := HR.cap
  have fz := HR.blk.frozen 1
  have hn' : ¬ ((l.length : Int) - at_ < n) := by omega
  simp at h0 h1
  go_enter Try.func95, Try.ntmps95
  go_wp2
  go_quiet (fail)
  go_wp2
  go_quiet (fail)
  go_wp2
  · have he := h
    go_ret
    subst he
    exact ⟨_, rfl, HR.moved _ _ (c + n) (by omega) (by omega), grown_trans (grown_trans (drewN_grown _ _ _) (grown_setCell _ _ _ _)) (drewN_grown _ _ _), reads_sub_eq (HR.moved _ _ (c + n) (by omega) (by omega)).reads hn hc rfl⟩
  · have he := h
    go_ret
    exact ⟨_, rfl, HR.moved _ _ (at_ + n) (by omega) (by omega), grown_trans (grown_trans (drewN_grown _ _ _) (grown_setCell _ _ _ _)) (drewN_grown _ _ _), reads_sub_ne (HR.moved _ _ (at_ + n) (by omega) (by omega)).reads hn hc he⟩
end Go.Proofs.Ytnnladfndmdapaa
/- Plain words on reading short forms. No program in sight. -/
namespace Go.Proofs.Ytnnladfndmdapaa
open Go.RowKit

/-- What a short form comes to, from its i-th byte on, u being what stood ahead: the error, or the fold and the number of its bytes. -/
def scan (i u : Nat) : List UInt8 → Except Int (Nat × Nat)
  | [] => .error 20
  | b :: r =>
    if i = 9 ∧ 1 < b.toNat then .error 21
    else if 128 ≤ b.toNat then scan (i + 1) (u + b.toNat % 128 * 128 ^ i) r
    else if b.toNat = 0 ∧ 0 < i then .error 21
    else .ok (u + b.toNat % 128 * 128 ^ i, i + 1)
/-- The number whose fold this is. -/
def unfoldI (u : Nat) : Int := if u % 2 = 0 then (u / 2 : Nat) else -((u / 2 : Nat) : Int) - 1
def numberF (low high : Int) (l : List UInt8) : Except Int (Int × Nat) :=
  if high < low then .error 2 else
  match scan 0 0 l with
  | .error e => .error e
  | .ok (u, k) => if unfoldI u < low ∨ high < unfoldI u then .error 21 else .ok (unfoldI u, k)
def blockF (most : Int) (l : List UInt8) : Except Int (List UInt8 × Nat) :=
  if most < 0 then .error 2 else
  match numberF 0 most l with
  | .error e => .error e
  | .ok (n, k) => if (l.length : Int) - k < n then .error 20 else .ok ((l.drop k).take n.toNat, k + n.toNat)

theorem scan_ok {l : List UInt8} : ∀ {i u v k : Nat}, scan i u l = .ok (v, k) → i < k ∧ k - i ≤ l.length ∧ (i ≤ 9 → u < 128 ^ i → v < 18446744073709551616 ∧ k ≤ 10) := by
  induction l with
  | nil => intro i u v k h; simp [scan] at h
  | cons b r ih =>
    intro i u v k h
    rw [scan] at h
    by_cases h9 : i = 9 ∧ 1 < b.toNat
    · rw [if_pos h9] at h; cases h
    · rw [if_neg h9] at h
      by_cases h1 : 128 ≤ b.toNat
      · rw [if_pos h1] at h
        obtain ⟨a1, a2, a3⟩ := ih h
        refine ⟨by omega, by simp only [List.length_cons]; omega, fun hi hu => ?_⟩
        have hi8 : i ≤ 8 := by omega
        refine a3 (by omega) ?_
        have : b.toNat % 128 * 128 ^ i ≤ 127 * 128 ^ i := Nat.mul_le_mul_right _ (by omega)
        rw [Nat.pow_succ]; omega
      · rw [if_neg h1] at h
        by_cases h2 : b.toNat = 0 ∧ 0 < i
        · rw [if_pos h2] at h; cases h
        · rw [if_neg h2] at h
          injection h with h
          injection h with h3 h4
          subst h3; subst h4
          refine ⟨by omega, by simp only [List.length_cons]; omega, fun hi hu => ⟨?_, by omega⟩⟩
          by_cases h99 : i = 9
          · subst h99
            have : b.toNat % 128 * 128 ^ 9 ≤ 1 * 128 ^ 9 := Nat.mul_le_mul_right _ (by omega)
            omega
          · have : b.toNat % 128 * 128 ^ i ≤ 127 * 128 ^ i := Nat.mul_le_mul_right _ (by omega)
            have h128 : 128 ^ i ≤ 128 ^ 8 := Nat.pow_le_pow_right (by omega) (by omega)
            omega
theorem scan_err {l : List UInt8} : ∀ {i u : Nat} {e : Int}, scan i u l = .error e → e = 20 ∨ e = 21 := by
  induction l with
  | nil => intro i u e h; simp [scan] at h; exact .inl h.symm
  | cons b r ih =>
    intro i u e h
    rw [scan] at h
    split at h
    · injection h with h; exact .inr h.symm
    · split at h
      · exact ih h
      · split at h
        · injection h with h; exact .inr h.symm
        · cases h
theorem numberF_ok {low high n : Int} {k : Nat} {l : List UInt8} (h : numberF low high l = .ok (n, k)) : low ≤ n ∧ n ≤ high ∧ 0 < k ∧ k ≤ l.length := by
  unfold numberF at h
  by_cases h0 : high < low
  · rw [if_pos h0] at h; cases h
  · rw [if_neg h0] at h
    cases hs : scan 0 0 l with
    | error e => rw [hs] at h; cases h
    | ok x =>
      obtain ⟨u, k'⟩ := x
      rw [hs] at h
      simp only at h
      by_cases h1 : unfoldI u < low ∨ high < unfoldI u
      · rw [if_pos h1] at h; cases h
      · rw [if_neg h1] at h
        injection h with h
        injection h with h3 h4
        subst h3; subst h4
        have := scan_ok hs
        omega
theorem numberF_err {low high e : Int} {l : List UInt8} (h : numberF low high l = .error e) : ¬ e = 0 := by
  unfold numberF at h
  split at h
  · injection h with h; omega
  · cases hs : scan 0 0 l with
    | error e' =>
      rw [hs] at h
      injection h with h
      have := scan_err hs
      omega
    | ok x =>
      obtain ⟨u, k⟩ := x
      rw [hs] at h
      simp only at h
      split at h
      · injection h with h; omega
      · cases h
theorem andNot128 (b : UInt8) : bits .andNot .u8 (b.toNat : Int) 128 = ((b.toNat % 128 : Nat) : Int) := by
  have hb := b.toNat_lt
  rw [show (128 : Int) = ((128 : Nat) : Int) from rfl, u8_andNot_nat _ _ (by omega) (by omega), show 255 - 128 = 127 from rfl, nat_mask7]
theorem or_add (i u x : Nat) (hu : u < 128 ^ i) (h : u + x * 128 ^ i < 18446744073709551616) : bits .or .u64 (u : Int) ((x * 128 ^ i : Nat) : Int) = ((u + x * 128 ^ i : Nat) : Int) := by
  rw [u64_or_nat _ _ (by omega) (by omega)]
  congr 1
  rw [Nat.or_comm, nat_join (7 * i) (x * 128 ^ i) u (by rw [Nat.pow_mul]; exact Nat.mul_mod_left _ _) (by rw [Nat.pow_mul]; exact hu)]
  omega
theorem shl_pow (x i : Nat) {j : Int} (hj : j = (i : Int)) (h : x * 128 ^ i < 18446744073709551616) : IntKind.u64.wrap ((x : Int) * 2 ^ (7 * j).toNat) = ((x * 128 ^ i : Nat) : Int) := by
  subst hj
  rw [wrap_u64, show (7 * (i : Int)).toNat = 7 * i from by omega]
  have e : ((2 : Int) ^ (7 * i)) = ((128 ^ i : Nat) : Int) := by rw [show (128 : Nat) = 2 ^ 7 from rfl, ← Nat.pow_mul]; simp
  rw [e, ← Int.natCast_mul]
  omega
theorem ofInt_i64' (a : Nat) (ha : a < 9223372036854775808) : (BitVec.ofInt 64 (a : Int)).toNat = a := by
  rw [BitVec.ofInt_natCast, BitVec.toNat_ofNat]; exact Nat.mod_eq_of_lt (by omega)
/-- int(u >> 1) ^ -int(u & 1) is the number whose fold u is. -/
theorem unfold_bits (u z : Nat) (hu : u < 18446744073709551616) (hz : z = u % 2) : bits .xor .i64 ((u : Int) / 2) (-(z : Int)) = unfoldI u := by
  unfold unfoldI
  rw [show ((u : Int) / 2) = ((u / 2 : Nat) : Int) from by omega]
  show IntKind.i64.wrap ((BitVec.ofInt 64 ((u / 2 : Nat) : Int) ^^^ BitVec.ofInt 64 (-(z : Int))).toNat : Int) = _
  rcases (show u % 2 = 0 ∨ u % 2 = 1 from by omega) with h | h
  · rw [if_pos h, hz, h]
    have h2 : (BitVec.ofInt 64 (-((0 : Nat) : Int))).toNat = 0 := by decide
    rw [BitVec.toNat_xor, ofInt_i64' _ (by omega), h2, Nat.xor_zero, IntKind.wrap_i64]
    omega
  · rw [if_neg (by omega), hz, h]
    have h2 : (BitVec.ofInt 64 (-((1 : Nat) : Int))).toNat = 18446744073709551615 := by decide
    rw [BitVec.toNat_xor, ofInt_i64' _ (by omega), h2, u64_ones' _ (by omega), IntKind.wrap_i64]
    omega
theorem and1 (u : Nat) (hu : u < 18446744073709551616) : bits .and .u64 (u : Int) 1 = ((u % 2 : Nat) : Int) := by
  rw [show (1 : Int) = ((1 : Nat) : Int) from rfl, u64_and_nat _ _ hu (by omega), nat_mask1]
/-- The number that bytes say, the highest first. -/
def beVal (l : List UInt8) : Nat := l.foldl (fun v b => v * 256 + b.toNat) 0
def takeF (n : Nat) (l : List UInt8) : Except Int (Nat × Nat) := if l.length < n then .error 20 else .ok (beVal (l.take n), n)
theorem beVal_take {p : List UInt8} {k : Nat} (h : k < p.length) : beVal (p.take (k + 1)) = beVal (p.take k) * 256 + p[k].toNat := by
  rw [List.take_succ_eq_append_getElem h]; unfold beVal; rw [List.foldl_append]; rfl
theorem beVal_lt (p : List UInt8) (k : Nat) : beVal (p.take k) < 256 ^ k := by
  induction k with
  | zero => simp [beVal]
  | succ k ih =>
    by_cases h : k < p.length
    · rw [beVal_take h, Nat.pow_succ]; have := p[k].toNat_lt; omega
    · rw [List.take_of_length_le (by omega)]
      rw [List.take_of_length_le (by omega)] at ih
      rw [Nat.pow_succ]; omega
theorem or_byte (v b : Nat) (hv : v * 256 + b < 18446744073709551616) (hb : b < 256) : bits .or .u64 ((v * 256 : Nat) : Int) (b : Int) = ((v * 256 + b : Nat) : Int) := by
  have h2 : v * 256 < 18446744073709551616 := Nat.lt_of_le_of_lt (Nat.le_add_right _ _) hv
  have h3 : b < 18446744073709551616 := Nat.lt_of_le_of_lt (Nat.le_add_left _ _) hv
  rw [u64_or_nat (v * 256) b h2 h3, nat_join 8 (v * 256) b (Nat.mul_mod_left v (2 ^ 8)) hb]
theorem wrap_mul256 (v : Nat) (hv : v < 256 ^ 7) : IntKind.u64.wrap ((v : Int) * 256) = (v : Int) * 256 := by
  rw [wrap_u64]; omega
theorem or_byte' (v : Nat) (b : UInt8) (hv : v < 256 ^ 7) : bits .or .u64 ((v : Int) * 256) (b.toNat : Int) = ((v * 256 + b.toNat : Nat) : Int) := by
  have hb := b.toNat_lt
  have := or_byte v b.toNat (by omega) (by omega)
  rw [← this, Int.natCast_mul]; rfl
theorem be_wrap (v : Nat) (b : UInt8) (hv : v < 256 ^ 7) : IntKind.u64.wrap ((v : Int) * 256 + (b.toNat : Int)) = ((v * 256 + b.toNat : Nat) : Int) := by
  have hb := b.toNat_lt
  rw [wrap_u64]; omega
theorem takeF_lt {w n k : Nat} {l : List UInt8} (h : takeF w l = .ok (n, k)) : n < 256 ^ w ∧ k = w ∧ w ≤ l.length := by
  unfold takeF at h
  by_cases h0 : l.length < w
  · rw [if_pos h0] at h; cases h
  · rw [if_neg h0] at h
    injection h with h
    injection h with h1 h2
    subst h1
    exact ⟨beVal_lt l w, h2.symm, by omega⟩

/-- What bytes of a short form say, the lowest first. -/
def valF : List UInt8 → Nat
  | [] => 0
  | b :: r => b.toNat % 128 + 128 * valF r
theorem valF_append (p : List UInt8) (b : UInt8) : valF (p ++ [b]) = valF p + b.toNat % 128 * 128 ^ p.length := by
  induction p with
  | nil => simp [valF]
  | cons a p ih =>
    simp only [List.cons_append, valF, ih, List.length_cons, Nat.pow_succ]
    rw [Nat.mul_add, ← Nat.add_assoc, Nat.mul_comm (128 ^ p.length) 128, Nat.mul_left_comm]
theorem valF_lt (p : List UInt8) : valF p < 128 ^ p.length := by
  induction p with
  | nil => simp [valF]
  | cons a p ih => simp only [valF, List.length_cons, Nat.pow_succ]; omega
theorem valF_take {l : List UInt8} {k : Nat} (h : k < l.length) : valF (l.take (k + 1)) = valF (l.take k) + l[k].toNat % 128 * 128 ^ k := by
  rw [List.take_succ_eq_append_getElem h, valF_append, List.length_take, Nat.min_eq_left (by omega)]
theorem valF_drop {p : List UInt8} {j : Nat} (h : j < p.length) : valF (p.drop j) = p[j].toNat % 128 + 128 * valF (p.drop (j + 1)) := by
  rw [List.drop_eq_getElem_cons h]; rfl
theorem valF_drop_le (p : List UInt8) : ∀ j, valF (p.drop j) ≤ valF p := by
  induction p with
  | nil => intro j; simp [valF]
  | cons a p ih =>
    intro j
    cases j with
    | zero => simp
    | succ j => have := ih j; simp only [List.drop_succ_cons, valF]; omega
/-- One more byte of a short form. -/
theorem scan_step {l : List UInt8} {I : Nat} (h : I < l.length) : scan I (valF (l.take I)) (l.drop I) =
    if I = 9 ∧ 1 < l[I].toNat then .error 21 else if 128 ≤ l[I].toNat then scan (I + 1) (valF (l.take (I + 1))) (l.drop (I + 1)) else if l[I].toNat = 0 ∧ 0 < I then .error 21 else .ok (valF (l.take (I + 1)), I + 1) := by
  rw [List.drop_eq_getElem_cons h, scan, valF_take h]
def formF (l : List UInt8) : Nat × Nat × Int := match scan 0 0 l with | .ok (u, k) => (u, k, 0) | .error e => (0, 0, e)
end Go.Proofs.Ytnnladfndmdapaa
/- The reader's inner functions: number, block. -/
namespace Go.Proofs.Ytnnladfndmdapaa
open Go.RowKit

/-- What number answers, r being the plain answer: the number, the place behind it; or it gives up. -/
def GivesN (w : World) (g : Nat) (A : Option Addr) (c : Nat) (l : List UInt8) (at_ : Nat) (f : Int) (r : Except Int (Int × Nat)) (e : Ending) (w' : World) : Prop :=
  w.grownBy w' (some g) ∧ match r with
  | .ok (n, k) => e = .returned (.int .i64 n) ∧ RdAt w' g A c l (at_ + k) f
  | .error m => e = gaveUp m ∧ ∃ at', RdAt w' g A c l at' f

theorem number_arg {w : World} {g : Nat} {A : Option Addr} {c : Nat} {l : List UInt8} {at_ : Nat} {f : Int} (HR : RdAt w g A c l at_ f) (low high : Int) (hn : high < low) :
    Calls Try.prog 99 #[.pointer (some ⟨g, 0, none⟩), .int .i64 low, .int .i64 high] w (GivesN w g A c l at_ f (numberF low high (l.drop at_))) := by
  have HN := Lib.hid (show numberF low high (l.drop at_) = .error 2 from by unfold numberF; rw [if_pos hn])
  have H := Lib.hid HR
  clear HR
  go_enter Try.func99, Try.ntmps99
  go_wp2
  refine ⟨rfl, World.grownBy.refl _ _, ?_⟩
  rw [HN.out]
  exact ⟨rfl, _, H.out⟩
set_option maxRecDepth 100000 in
set_option maxHeartbeats 400000 in
theorem number_any {w : World} {g : Nat} {A : Option Addr} {c : Nat} {l : List UInt8} {at_ : Nat} {f : Int} (HR : RdAt w g A c l at_ f) (low high : Int) :
    Calls Try.prog 99 #[.pointer (some ⟨g, 0, none⟩), .int .i64 low, .int .i64 high] w (GivesN w g A c l at_ f (numberF low high (l.drop at_))) := by
  by_cases hn : high < low
  · exact number_arg HR low high hn
  have H := Lib.hid HR
  clear HR
  go_enter Try.func99, Try.ntmps99
  go_wp2
  go_loopw [7, 8] (fun u i wr => ∃ (U I : Nat), u = .int .u64 U ∧ i = .int .i64 I ∧ I ≤ 9 ∧ Hid (U < 128 ^ I) ∧ Hid (scan 0 0 (l.drop at_) = scan I U (l.drop (at_ + I))) ∧ Hid (RdAt wr g A c l (at_ + I) f) ∧ Hid (w.grownBy wr (some g))) (fun _ i _ => 9 - (intOf i).toNat)
  case atStart => exact ⟨0, 0, rfl, rfl, by omega, Lib.hid (by decide), Lib.hid rfl, H, Lib.hid (World.grownBy.refl _ _)⟩
  case round =>
    obtain ⟨U, I, rfl, rfl, hI, hU, hS, hR, hG⟩ := hrel
    by_cases hlt : at_ + I < l.length
    · go_wp2_with fail
      refine (take_ok hR.out 1 (by omega)).mono ?_
      rintro e w1 ⟨A1, rfl, R1, G1, S1⟩
      have e1 : (l.drop (at_ + I)).take 1 = [l[at_ + I]] := by rw [List.drop_eq_getElem_cons hlt]; rfl
      rw [e1] at S1
      obtain ⟨b1, o1, rfl, hb1, hc1⟩ := S1.out.at_ (k := 0) (by simp)
      obtain ⟨b, hb⟩ : ∃ b, b = l[at_ + I] := ⟨_, rfl⟩
      simp only [List.getElem_cons_zero, Nat.add_zero, ← hb] at hc1
      have HB := Lib.hid hb
      have hbl : (b.toNat : Int) < 256 := by have := b.toNat_lt; omega
      clear hb e1 S1 hb1
      obtain ⟨x, hx⟩ : ∃ x : Nat, x = b.toNat % 128 := ⟨_, rfl⟩
      obtain ⟨y, hy⟩ : ∃ y : Nat, y = x * 128 ^ I := ⟨_, rfl⟩
      obtain ⟨V, hV⟩ : ∃ V : Nat, V = U + y := ⟨_, rfl⟩
      have hx1 : (x : Int) < 128 := by omega
      have Ea : bits .andNot .u8 (b.toNat : Int) 128 = (x : Int) := by rw [andNot128, hx]
      have hs1 : scan I U (l.drop (at_ + I)) = if I = 9 ∧ 1 < b.toNat then .error 21 else if 128 ≤ b.toNat then scan (I + 1) V (l.drop (at_ + I + 1)) else if b.toNat = 0 ∧ 0 < I then .error 21 else .ok (V, I + 1) := by
        rw [List.drop_eq_getElem_cons hlt, scan, ← HB.out, hV, hy, hx]
      have HS := Lib.hid hs1
      clear hs1
      by_cases hbad : I = 9 ∧ 1 < b.toNat
      · obtain ⟨h9, hb1⟩ := hbad
        have hb1' : (1 : Int) < (b.toNat : Int) := by omega
        have HE := Lib.hid (show numberF low high (l.drop at_) = .error 21 from by unfold numberF; rw [if_neg (by omega), hS.out, HS.out, if_pos ⟨h9, hb1⟩])
        have h9b : ((I : Int) == 9) = true := by simp; omega
        clear hx hy hV h9 hb1
        go_wp2
        exact ⟨rfl, grown_trans hG.out G1.out, by rw [HE.out]; exact ⟨rfl, _, R1.out⟩⟩
      · have hUy : y ≤ (if I = 9 then 1 else 127) * 128 ^ I := by rw [hy]; exact Nat.mul_le_mul_right _ (by split <;> omega)
        have hV64 : V < 18446744073709551616 := by
          have := hU.out
          by_cases h9 : I = 9
          · subst h9; rw [if_pos rfl] at hUy; omega
          · rw [if_neg h9] at hUy
            have h128 : 128 ^ I ≤ 128 ^ 8 := Nat.pow_le_pow_right (by omega) (by omega)
            omega
        have Eb : IntKind.u64.wrap ((x : Int) * 2 ^ (7 * I)) = (y : Int) := by
          have := shl_pow x I (j := I) rfl (by omega)
          rw [show (7 * (I : Int)).toNat = 7 * I from by omega] at this
          rw [this, hy]
        have Ec : bits .or .u64 (U : Int) (y : Int) = (V : Int) := by rw [hy, hV, hy]; exact or_add I U x hU.out (by omega)
        have hV' := Lib.hid (show V < 18446744073709551616 from hV64)
        have Es : wrap64 ((V : Int) / 2) = (V : Int) / 2 := by unfold wrap64; omega
        have HV : Hid (128 ≤ b.toNat → V < 128 ^ (I + 1)) := Lib.hid (fun h => by
          have h9 : ¬ I = 9 := by omega
          rw [if_neg h9] at hUy
          have := hU.out
          rw [Nat.pow_succ]; omega)
        have HNB := Lib.hid hbad
        clear hx hy hV hUy hV64 hbad
        by_cases hm : 128 ≤ b.toNat
        · have hm' : (128 : Int) ≤ (b.toNat : Int) := by omega
          have h9 : ¬ (I : Int) = 9 := by have := HNB.out; omega
          have h9b : ((I : Int) == 9) = false := by simpa using h9
          have HSM := Lib.hid (show scan 0 0 (l.drop at_) = scan (I + 1) V (l.drop (at_ + I + 1)) from by rw [hS.out, HS.out, if_neg HNB.out, if_pos hm])
          have HM := Lib.hid hm
          clear hm h9
          go_wp2
          go_roundw
          case rel => exact ⟨V, I + 1, rfl, by go_num, by have := HNB.out; have := HM.out; omega, Lib.hid (HV.out HM.out), HSM, R1, Lib.hid (grown_trans hG.out G1.out)⟩
          case measure => simp [intOf]; have := HNB.out; have := HM.out; omega
        · have hm' : ¬ (128 : Int) ≤ (b.toNat : Int) := by omega
          have hz0 : b.toNat ≠ 0 ∨ I = 0 ∨ (b.toNat = 0 ∧ 0 < I) := by omega
          have HM := Lib.hid hm
          clear hm
          obtain ⟨z, hz⟩ : ∃ z : Nat, z = V % 2 := ⟨_, rfl⟩
          have hz1 : (z : Int) < 2 := by omega
          have Ed : bits .and .u64 (V : Int) 1 = (z : Int) := by rw [and1 V hV'.out, hz]
          obtain ⟨N, hN⟩ : ∃ N : Int, N = unfoldI V := ⟨_, rfl⟩
          have Ee : bits .xor .i64 ((V : Int) / 2) (-(z : Int)) = N := by rw [hN]; exact unfold_bits V z hV'.out hz
          have HN := Lib.hid hN
          clear hz hN
          have h9e : ((I : Int) == 9) = true ∧ ¬ (1 : Int) < (b.toNat : Int) ∨ ((I : Int) == 9) = false := by
            by_cases h9 : I = 9
            · exact .inl ⟨by simp; omega, by have := HNB.out; omega⟩
            · exact .inr (by simp; omega)
          by_cases hzz : b.toNat = 0 ∧ 0 < I
          · have HE := Lib.hid (show numberF low high (l.drop at_) = .error 21 from by unfold numberF; rw [if_neg (by omega), hS.out, HS.out, if_neg HNB.out, if_neg HM.out, if_pos hzz])
            have hb0 : ((b.toNat : Int) == 0) = true := by simp; omega
            have hI0 : (0 : Int) < (I : Int) := by omega
            clear hzz hz0
            rcases h9e with ⟨h9b, hb1⟩ | h9b
            all_goals
              go_wp2
              exact ⟨rfl, grown_trans hG.out G1.out, by rw [HE.out]; exact ⟨rfl, _, R1.out⟩⟩
          · have hz' : ((b.toNat : Int) == 0) = true ∧ ¬ (0 : Int) < (I : Int) ∨ ((b.toNat : Int) == 0) = false := by
              by_cases h0 : b.toNat = 0
              · exact .inl ⟨by simp; omega, by omega⟩
              · exact .inr (by simp; omega)
            have HNF := Lib.hid (show numberF low high (l.drop at_) = if N < low ∨ high < N then .error 21 else .ok (N, I + 1) from by unfold numberF; rw [if_neg (by omega), hS.out, HS.out, if_neg HNB.out, if_neg HM.out, if_neg hzz, HN.out])
            clear hzz hz0
            by_cases hr : N < low ∨ high < N
            · have HE := Lib.hid (show numberF low high (l.drop at_) = .error 21 from by rw [HNF.out, if_pos hr])
              have hr' : N < low ∨ ¬ N < low ∧ high < N := by omega
              clear hr
              rcases hr' with hr1 | ⟨hr1, hr2⟩
              all_goals rcases h9e with ⟨h9b, hb1⟩ | h9b
              all_goals rcases hz' with ⟨hz0, hz2⟩ | hz0
              all_goals
                go_wp2
                exact ⟨rfl, grown_trans hG.out G1.out, by rw [HE.out]; exact ⟨rfl, _, R1.out⟩⟩
            · have HE := Lib.hid (show numberF low high (l.drop at_) = .ok (N, I + 1) from by rw [HNF.out, if_neg hr])
              have hr1 : ¬ N < low := by omega
              have hr2 : ¬ high < N := by omega
              clear hr
              rcases h9e with ⟨h9b, hb1⟩ | h9b
              all_goals rcases hz' with ⟨hz0, hz2⟩ | hz0
              all_goals
                go_wp2
                go_ret
                exact ⟨grown_trans hG.out G1.out, by rw [HE.out]; exact ⟨rfl, R1.out⟩⟩
    · have HE := Lib.hid (show numberF low high (l.drop at_) = .error 20 from by
        unfold numberF; rw [if_neg (by omega), hS.out, List.drop_of_length_le (by omega)]; rfl)
      go_wp2_with fail
      refine (take_cut hR.out 1 (by omega)).mono ?_
      rintro e w1 ⟨rfl, m, rfl⟩
      unfold gaveUp
      go_wp2
      exact ⟨rfl, grown_trans hG.out (drewN_grown _ _ _), by rw [HE.out]; exact ⟨rfl, _, hR.out.drewN m⟩⟩

end Go.Proofs.Ytnnladfndmdapaa
/- The reader's inner function block; reading. -/
namespace Go.Proofs.Ytnnladfndmdapaa
open Go.RowKit

/-- What block answers, r being the plain answer: bytes of the reader's own; or it gives up. -/
def GivesBl (w : World) (g : Nat) (A : Option Addr) (c : Nat) (l : List UInt8) (at_ : Nat) (f : Int) (r : Except Int (List UInt8 × Nat)) (e : Ending) (w' : World) : Prop :=
  w.grownBy w' (some g) ∧ match r with
  | .ok (p, k) => ∃ A' c', e = .returned (.slice A' p.length c') ∧ BReads w' g A' p ∧ RdAt w' g A c l (at_ + k) f
  | .error m => e = gaveUp m ∧ ∃ at', RdAt w' g A c l at' f

theorem block_any {w : World} {g : Nat} {A : Option Addr} {c : Nat} {l : List UInt8} {at_ : Nat} {f : Int} (HR : RdAt w g A c l at_ f) (most : Int) :
    Calls Try.prog 97 #[.pointer (some ⟨g, 0, none⟩), .int .i64 most] w (GivesBl w g A c l at_ f (blockF most (l.drop at_))) := by
  by_cases hm : most < 0
  · have HN := Lib.hid (show blockF most (l.drop at_) = .error 2 from by unfold blockF; rw [if_pos hm])
    have H := Lib.hid HR
    clear HR
    go_enter Try.func97, Try.ntmps97
    go_wp2
    refine ⟨rfl, World.grownBy.refl _ _, ?_⟩
    rw [HN.out]
    exact ⟨rfl, _, H.out⟩
  · have H := Lib.hid HR
    clear HR
    go_enter Try.func97, Try.ntmps97
    go_wp2_with fail
    refine (number_any H.out 0 most).mono ?_
    rintro e w1 ⟨hg, hr⟩
    have G1 := Lib.hid hg
    clear hg
    cases hn : numberF 0 most (l.drop at_) with
    | error m =>
      have HE := Lib.hid (show blockF most (l.drop at_) = .error m from by unfold blockF; rw [if_neg (by omega), hn])
      rw [hn] at hr
      obtain ⟨rfl, at', hr'⟩ := hr
      have R1 := Lib.hid hr'
      clear hr' hn
      unfold gaveUp
      go_wp2
      exact ⟨rfl, G1.out, by rw [HE.out]; exact ⟨rfl, _, R1.out⟩⟩
    | ok x =>
      obtain ⟨n, k⟩ := x
      rw [hn] at hr
      obtain ⟨rfl, hr'⟩ := hr
      have R1 := Lib.hid hr'
      have hb := numberF_ok hn
      obtain ⟨n, rfl⟩ := Int.eq_ofNat_of_zero_le hb.1
      have hld : (l.drop at_).length = l.length - at_ := List.length_drop
      by_cases hcut : (l.length : Int) - ((at_ + k : Nat) : Int) < (n : Int)
      · have HE := Lib.hid (show blockF most (l.drop at_) = .error 20 from by unfold blockF; rw [if_neg (by omega), hn]; simp only; rw [if_pos (by omega)])
        clear hr' hn hb hld
        go_wp2_with fail
        refine (take_cut R1.out n hcut).mono ?_
        rintro e w2 ⟨rfl, m, rfl⟩
        unfold gaveUp
        go_wp2
        exact ⟨rfl, grown_trans G1.out (drewN_grown _ _ _), by rw [HE.out]; exact ⟨rfl, _, R1.out.drewN m⟩⟩
      · have hp : (((l.drop at_).drop k).take n).length = n := by rw [List.length_take, List.length_drop]; have := H.out.le; omega
        have HE := Lib.hid (show blockF most (l.drop at_) = .ok (((l.drop at_).drop k).take n, k + n) from by unfold blockF; rw [if_neg (by omega), hn]; simp only; rw [if_neg (by have := H.out.le; omega), Int.toNat_natCast])
        have HP := Lib.hid hp
        have hle : at_ + k + n ≤ l.length := by omega
        clear hr' hn hb hld hp
        go_wp2_with fail
        refine (take_ok R1.out n hle).mono ?_
        rintro e w2 ⟨A2, rfl, R2, G2, S2⟩
        go_wp2
        go_ret
        refine ⟨grown_trans G1.out G2.out, ?_⟩
        rw [HE.out]
        exact ⟨A2, _, by rw [HP.out]; rfl, by rw [List.drop_drop]; exact S2.out, by rw [← Nat.add_assoc]; exact R2.out⟩
end Go.Proofs.Ytnnladfndmdapaa
/- reading: the deferred closure that recovers; by a contract for whatever closure it calls. -/
namespace Go.Proofs.Ytnnladfndmdapaa
open Go.RowKit

/-- w' is w with new blocks, and with writes to the blocks of S alone. -/
structure Keeps (S : Nat → Prop) (w w' : World) : Prop where
  os : w'.os = w.os
  tape : w'.tape = w.tape
  output : w'.output = w.output
  size : w.heap.size ≤ w'.heap.size
  block : ∀ k, k < w.heap.size → ¬ S k → w'.heap[k]? = w.heap[k]?
theorem Keeps.refl (S : Nat → Prop) (w : World) : Keeps S w w := ⟨rfl, rfl, rfl, Nat.le_refl _, fun _ _ _ => rfl⟩
theorem Keeps.trans {S S' : Nat → Prop} {a b c : World} (h : Keeps S a b) (k : Keeps S' b c) (hs : ∀ i, S' i → S i ∨ a.heap.size ≤ i) : Keeps S a c :=
  ⟨k.os.trans h.os, k.tape.trans h.tape, k.output.trans h.output, Nat.le_trans h.size k.size, fun i hi hn => (k.block i (Nat.lt_of_lt_of_le hi h.size) (fun e => (hs i e).elim hn (fun h => by omega))).trans (h.block i hi hn)⟩
theorem Keeps.of_grown {w w' : World} {row : Option Nat} (h : w.grownBy w' row) : Keeps (fun k => some k = row) w w' := ⟨h.os, h.tape, h.output, h.size, fun k hk hn => h.block k hk hn⟩
theorem Keeps.of_below {w w' : World} (h : Below w.heap.size w w') (S : Nat → Prop) : Keeps S w w' := ⟨h.os, h.tape, h.output, h.size, fun k hk _ => h.block k hk⟩
theorem Keeps.mono {S S' : Nat → Prop} {w w' : World} (h : Keeps S w w') (hs : ∀ i, S i → S' i ∨ w.heap.size ≤ i) : Keeps S' w w' :=
  ⟨h.os, h.tape, h.output, h.size, fun i hi hn => h.block i hi (fun e => (hs i e).elim hn (fun h => by omega))⟩
theorem Keeps.below {S : Nat → Prop} {w w' : World} {B : Nat} (h : Keeps S w w') (hB : B ≤ w.heap.size) (hs : ∀ i, S i → B ≤ i) : Below B w w' :=
  ⟨h.os, h.tape, h.output, h.size, fun k hk => h.block k (by omega) (fun e => by have := hs k e; omega)⟩
theorem Keeps.alloc {S : Nat → Prop} {a w : World} (h : Keeps S a w) (o : Obj) : Keeps S a (w.alloc o) :=
  ⟨h.os, h.tape, h.output, Nat.le_trans h.size (by simp), fun k hk hn => (heap_old w o k (Nat.lt_of_lt_of_le hk h.size)).trans (h.block k hk hn)⟩
theorem Keeps.setCell {S : Nat → Prop} {a w : World} (h : Keeps S a w) {p : Addr} (hp : S p.block ∨ a.heap.size ≤ p.block) (u : Value) : Keeps S a (w.setCell p u) :=
  ⟨h.os, h.tape, h.output, by simpa [World.setCell] using h.size, fun k hk hn => (Below.heap_setCell w p u k (fun e => by subst e; exact hp.elim hn (fun h => by omega))).trans (h.block k hk hn)⟩
theorem Keeps.drewN {S : Nat → Prop} {a w : World} (h : Keeps S a w) (m : Nat) : Keeps S a (w.drewN m) := ⟨h.os, h.tape, h.output, h.size, h.block⟩
theorem Blk.keeps {S : Nat → Prop} {w w' : World} {g : Nat} {t : TypeId} {cs : Array Value} (h : Blk w g t cs) (hk : Keeps S w w') (hg : ¬ S g) : Blk w' g t cs := (hk.block g h.lt hg).trans h
theorem RdAt.keeps {S : Nat → Prop} {w w' : World} {g : Nat} {A : Option Addr} {c : Nat} {l : List UInt8} {at_ : Nat} {f : Int} (h : RdAt w g A c l at_ f) (hk : Keeps S w w') (hs : ∀ i, S i → g < i) : RdAt w' g A c l at_ f :=
  ⟨h.blk.keeps hk (fun e => by have := hs _ e; omega), h.reads.below (hk.below (Nat.le_of_lt h.blk.lt) (fun i hi => Nat.le_of_lt (hs i hi))), h.cap, h.le, h.small, h.ours.keep h.reads (fun i hi => hk.block i (Nat.lt_trans hi h.blk.lt) (fun e => by have := hs i e; omega))⟩
/-- A reader while blocks are written that are not its own: later blocks, or blocks of another element type. -/
theorem RdAt.keepsO {S : Nat → Prop} {w w' : World} {g : Nat} {A : Option Addr} {c : Nat} {l : List UInt8} {at_ : Nat} {f : Int} (h : RdAt w g A c l at_ f) (hk : Keeps S w w')
    (hs : ∀ i, S i → i ≠ g ∧ (g < i ∨ ∃ t cs, Blk w i t cs ∧ 5 ≠ t)) : RdAt w' g A c l at_ f := by
  have hn : ∀ b o cur fr, A = some ⟨b, o, none⟩ → b < g → w.heap[b]? = some (.cells cur 5 fr) → ¬ S b := fun b o cur fr _ hb hh hS => by
    rcases (hs b hS).2 with h1 | ⟨t, cs, h2, h3⟩
    · omega
    · unfold Blk at h2; rw [hh] at h2; injection h2 with h2; injection h2 with _ h2; exact h3 h2
  refine ⟨h.blk.keeps hk (fun e => (hs g e).1 rfl), ⟨h.reads.1, fun hp => ?_⟩, h.cap, h.le, h.small, fun hp => ?_⟩
  · obtain ⟨b, o, e, hb, hc⟩ := h.reads.2 hp
    obtain ⟨b', o', cur, fr, e', hh⟩ := h.ours hp
    rw [e] at e'
    injection e' with e'
    injection e' with e1 e2 _
    subst e1; subst e2
    have hkb := hk.block b (Nat.lt_trans hb h.blk.lt) (hn b o cur fr e hb hh)
    exact ⟨b, o, e, hb, fun j u hu => (World.cell?_of_block hkb).trans (hc j u hu)⟩
  · obtain ⟨b, o, e, hb, hc⟩ := h.reads.2 hp
    obtain ⟨b', o', cur, fr, e', hh⟩ := h.ours hp
    rw [e] at e'
    injection e' with e'
    injection e' with e1 e2 _
    subst e1; subst e2
    exact ⟨b, o, cur, fr, e, (hk.block b (Nat.lt_trans hb h.blk.lt) (hn b o cur fr e hb hh)).trans hh⟩
theorem RdAt.faulted {w : World} {g : Nat} {A : Option Addr} {c : Nat} {l : List UInt8} {at_ : Nat} {f : Int} (h : RdAt w g A c l at_ f) (k : Nat) (hk : k ≤ l.length) (m : Int) :
    RdAt ((w.setCell ⟨g, 1, none⟩ (.int .i64 (k : Int))).setCell ⟨g, 2, none⟩ (.int .i64 m)) g A c l k m := by
  refine ⟨?_, ?_, h.cap, hk, h.small, h.ours.keep h.reads (fun i hi => (Below.heap_setCell _ ⟨g, 2, none⟩ _ i (by show i ≠ g; omega)).trans (Below.heap_setCell w ⟨g, 1, none⟩ _ i (by show i ≠ g; omega)))⟩
  · have := (h.blk.set_ 1 (.int .i64 (k : Int))).set_ 2 (.int .i64 m)
    simpa using this
  · exact Reads.setCell (p := ⟨g, 2, none⟩) (Reads.setCell (p := ⟨g, 1, none⟩) h.reads (Nat.le_refl _) _) (Nat.le_refl _) _

/-- A reader that is not there, or that has a fault: nothing is called. -/
theorem reading_none {w : World} (fv : Value) : Calls Try.prog 93 #[.pointer none, fv] w fun e w' => e = .returned (.tuple #[]) ∧ Below w.heap.size w w' := by
  go_enter_defers Try.func93, Try.ntmps93
  go_wp2
  simp [bodyPostD, Leaves, results, Try.results93]
  exact (Below.refl _ _).alloc (Nat.le_refl _) _
theorem reading_fault {w : World} {g : Nat} {A : Option Addr} {c : Nat} {l : List UInt8} {at_ : Nat} {f : Int} (HR : RdAt w g A c l at_ f) (hf : ¬ f = 0) (fv : Value) :
    Calls Try.prog 93 #[.pointer (some ⟨g, 0, none⟩), fv] w fun e w' => e = .returned (.tuple #[]) ∧ Below w.heap.size w w' := by
  have hlt := HR.blk.lt
  have h2 : (w.alloc (.cells #[.pointer (some ⟨g, 0, none⟩)] 99)).cell? ⟨g, 2, none⟩ = some (.int .i64 f) := by
    have := (HR.blk.alloc (.cells #[.pointer (some ⟨g, 0, none⟩)] 99)).cell 2
    simpa using this
  have hb : ((f : Int) != 0) = true := by simpa using hf
  clear HR
  go_enter_defers Try.func93, Try.ntmps93
  go_wp2
  simp [bodyPostD, Leaves, results, Try.results93]
  exact (Below.refl _ _).alloc (Nat.le_refl _) _
set_option maxRecDepth 100000 in
theorem reading_any {w : World} {g : Nat} {A : Option Addr} {c : Nat} {l : List UInt8} {at_ : Nat} (HR : RdAt w g A c l at_ 0) (F : FuncId) (caps : Array Value) (S : Nat → Prop) (hS : ∀ k, S k → k < w.heap.size) (hg : S g)
    (hcall : ∀ w' : World, (callFunc F caps).run Try.prog w' = .ok (.enter F caps) w') (Ok : World → Prop) (Bad : Int → World → Prop)
    (hdo : ∀ w1, Below w.heap.size w w1 → Calls Try.prog F caps w1 fun e w2 => Keeps S w1 w2 ∧ (e = .returned (.tuple #[]) ∧ Ok w2 ∨ ∃ m, e = gaveUp m ∧ Bad m w2 ∧ ∃ at', RdAt w2 g A c l at' 0)) :
    Calls Try.prog 93 #[.pointer (some ⟨g, 0, none⟩), .func (.func F) #[] caps] w fun e w' => e = .returned (.tuple #[]) ∧ Keeps S w w' ∧
      (Ok w' ∨ ∃ m w2, Bad m w2 ∧ Keeps S w w2 ∧ w' = (w2.setCell ⟨g, 1, none⟩ (.int .i64 at_)).setCell ⟨g, 2, none⟩ (.int .i64 m) ∧ ∃ at', RdAt w2 g A c l at' 0) := by
  have hlt := HR.blk.lt
  have h1 : (w.alloc (.cells #[.pointer (some ⟨g, 0, none⟩)] 99)).cell? ⟨g, 1, none⟩ = some (.int .i64 at_) := by
    have := (HR.blk.alloc (.cells #[.pointer (some ⟨g, 0, none⟩)] 99)).cell 1
    simpa using this
  have h2 : (w.alloc (.cells #[.pointer (some ⟨g, 0, none⟩)] 99)).cell? ⟨g, 2, none⟩ = some (.int .i64 0) := by
    have := (HR.blk.alloc (.cells #[.pointer (some ⟨g, 0, none⟩)] 99)).cell 2
    simpa using this
  have hmf : ∀ (fn : Fn) (first cap : Array Value) (w : World), (Instr.makeFunc fn first cap).run Try.prog w = .ok (.func fn first cap) w := fun _ _ _ _ => rfl
  have H := Lib.hid HR
  have HDO := Lib.hid hdo
  have HS := Lib.hid hS
  clear HR hdo hS
  go_enter_defers Try.func93, Try.ntmps93
  go_wp2
  have B1 := Lib.hid (((Below.refl _ _).alloc (Nat.le_refl _) (.cells #[.pointer (some ⟨g, 0, none⟩)] 99)).alloc (by simp) (.cells #[.int .i64 at_] 3) : Below w.heap.size w _)
  have R1 := Lib.hid (Blk.alloc (Blk.new w 99 #[.pointer (some ⟨g, 0, none⟩)]) (.cells #[.int .i64 at_] 3))
  have N1 := Lib.hid (Blk.new (w.alloc (.cells #[.pointer (some ⟨g, 0, none⟩)] 99)) 3 #[.int .i64 at_])
  refine (HDO.out _ B1.out).mono ?_
  rintro e w2 ⟨hk, h⟩
  have K2 := Lib.hid (((Keeps.refl S w).alloc _).alloc _ |>.trans hk (fun i hi => .inl hi))
  have R2 := Lib.hid (R1.out.keeps hk (fun e => by have := HS.out _ e; omega))
  have N2 := Lib.hid (N1.out.keeps hk (fun e => by have := HS.out _ e; simp at this; omega))
  clear hk
  rcases h with ⟨rfl, hok⟩ | ⟨m, rfl, hbad, at', hr⟩
  · have HOK := Lib.hid hok
    clear hok
    go_wp2
    refine leaves_cons (f := 114) (args := #[.pointer (some ⟨w.heap.size + 1, 0, none⟩), .pointer (some ⟨w.heap.size, 0, none⟩)]) (by simp) (by simp [go_sem]) ?_
    refine (reading1_idle _ _ _).mono ?_
    rintro e u' w'' ⟨rfl, rfl, rfl⟩
    simp [Leaves, settle, results, Try.results93]
    exact ⟨K2.out, .inl HOK.out⟩
  · have HB := Lib.hid hbad
    have HR := Lib.hid hr
    clear hbad hr
    unfold gaveUp
    go_wp2
    refine leaves_cons (f := 114) (args := #[.pointer (some ⟨w.heap.size + 1, 0, none⟩), .pointer (some ⟨w.heap.size, 0, none⟩)]) (by simp) (by simp [go_sem]) ?_
    refine (reading1_catch (w.heap.size + 1) w.heap.size g at' m at_ [] _ w2 (by simpa using N2.out) R2.out HR.out.blk).mono ?_
    rintro e u' w'' ⟨rfl, rfl, rfl⟩
    simp [Leaves, settle, results, Try.results93]
    exact ⟨(K2.out.setCell (.inl hg) _).setCell (.inl hg) _, .inr ⟨m, w2, HB.out, K2.out, rfl, at', HR.out⟩⟩
end Go.Proofs.Ytnnladfndmdapaa
