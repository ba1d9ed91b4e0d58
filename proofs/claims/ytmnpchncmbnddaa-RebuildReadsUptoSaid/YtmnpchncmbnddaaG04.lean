/- Contracts and plain laws that this claim leans on, laid together: Wal4R, Solid, Sum1, Sum2, Rdr6, Rdr7, PlainF, PlainT, Frm1, Frm2, All, Area1, Area2, Disk1, Disk2, Disk3, Disk4, Wal1, EntK, Wal2, Rdl, PlainE, PlainW, Wal4D, Wal3, Ent9, PlainD, Ent10, Ent2, Ent3a, Ent3b, Ent3c, Ent3d, Ent3, Ent11, Ent7, Ent8, Ent12, EntL2, Wal4, Wal5, EqI, WalP. -/
import Derived.Test.YtmnpchncmbnddaaG02
import Derived.Test.YtmnpchncmbnddaaG03
import Derived.Laws.BitsAllLaws
import Derived.Deep.Cut
import Derived.Test.YtmnpchncmbnddaaG01
import Derived.Deep.LoopGhost
import Derived.Deep.RegionHeld3
import Derived.BigQuiet
import Derived.BigRegion
import Derived.Deep.RegionLaw
import Derived.Laws.MakeOwn
import Derived.Sort.CutIn
import Derived.Deep.QuietTactic
set_option linter.all false
set_option linter.unusedVariables false
set_option linter.unusedSimpArgs false
set_option linter.unnecessarySimpa false
/- Log.Entries: the region of a round that adds an entry and its end: in whatever order. -/
namespace Go.Proofs.Ytmnpchncmbnddaa
open Go.RowKit

def entsSlots : List Nat := [50, 51, 52, 53, 54, 55, 56, 57, 58, 59]
theorem fresh_src {w : World} {g size : Nat} {e T : TypeId} {cs : Array Value} (h : Blk w g e cs) (ht : Try.prog.underlying T = some (.slice e)) (h1 : cs.toList.all (fun u => u.oneCell') = true) (h2 : 0 < size) (hs : cs.size = size) : Src Try.prog size T (.slice (some ⟨g, 0, none⟩) 1 1) 1 cs.toList w :=
  Reads.src (B := w.heap.size) (A := some ⟨g, 0, none⟩) ⟨by rw [Array.length_toList]; omega, fun _ => ⟨g, 0, rfl, h.lt, fun j u hu => by
    rw [Nat.zero_add]
    have := h.cell j
    rw [this, ← hu, Array.getElem?_toList]⟩⟩ ht 1 (fun u hu => List.all_eq_true.1 h1 u hu)
theorem upd_of {L : Nat → Bool} {i j : Nat} (h : L j = true) : upd L i j = true := by unfold upd; split <;> simp [h]
/-- A fresh slice of one element, or none yet. -/
def Fresh (b : Bool) (e : TypeId) (cs : Array Value) (u : Value) (i : Item) : Prop := if b then ∃ g, u = .slice (some ⟨g, 0, none⟩) 1 1 ∧ i = Item.blk g e cs else i = Item.none
/-- A row before and behind its append; its box before and behind its store. -/
structure RowSt (ap st : Bool) (g : Nat) (T e : TypeId) (size : Nat) (v u : Value) (n : Nat) (xs cs : List Value) (bx rw : Item) : Prop where
  r : if ap then rw = Item.rowT e size u (n + 1) (xs ++ cs) else rw = Item.rowT e size v n xs
  b : if st then bx = Item.blk g T #[u] else bx = Item.blk g T #[v]
structure EInv (a0 : Act) (x0 : Item) (w0 : World) (M : List Item) (g9 g10 : Nat) (v9 v10 : Value) (n : Nat) (xs9 xs10 : List Value) (cs : Array Value) (base at_ : Int) (L : Nat → Bool) (a : Act) (w : World) : Prop where
  fr : Fr entsSlots a0 a
  u50 : L 0 = true → a.tmps.getD 50 undef = v9
  u51 : L 1 = true → a.tmps.getD 51 undef = .agg cs
  u54 : L 4 = true → a.tmps.getD 54 undef = v10
  u55 : L 5 = true → a.tmps.getD 55 undef = .int .i64 base
  u56 : L 6 = true → a.tmps.getD 56 undef = .int .i64 at_
  u57 : L 7 = true → a.tmps.getD 57 undef = .int .i64 (base + at_)
  dn3 : L 3 = true → L 0 = true ∧ L 2 = true
  dn9 : L 9 = true → L 4 = true ∧ L 8 = true
  dn10 : L 10 = true → L 3 = true
  dn11 : L 11 = true → L 9 = true
  it : ∃ b9 b10 r9 r10 f1 f2, Turn x0 w0 (Item.all (b9 :: b10 :: r9 :: r10 :: f1 :: f2 :: M)) w ∧ Fresh (L 2) 26 cs (a.tmps.getD 52 undef) f1 ∧ Fresh (L 8) 3 #[.int .i64 (base + at_)] (a.tmps.getD 58 undef) f2 ∧
    RowSt (L 3) (L 10) g9 24 26 cs.size v9 (a.tmps.getD 53 undef) n xs9 cs.toList b9 r9 ∧ RowSt (L 9) (L 11) g10 36 3 1 v10 (a.tmps.getD 59 undef) n xs10 [.int .i64 (base + at_)] b10 r10
theorem Turn.sub {x : Item} {w w' : World} {L M : List Item} (h : Turn x w (Item.all L) w') (hs : M.Sublist L) : Turn x w (Item.all M) w' :=
  ⟨⟨fun i hi => h.p.1 i (hs.subset hi), h.p.2.sublist hs⟩, h.k, fun k ⟨i, hi, hk⟩ => h.o k ⟨i, hs.subset hi, hk⟩⟩
end Go.Proofs.Ytmnpchncmbnddaa
/- Pieces whose blocks are all cells: they stay when a range over a function writes its own records. -/
namespace Go.Proofs.Ytmnpchncmbnddaa
open Go.RowKit

def Item.solid (x : Item) : Prop := ∀ W k, x.P W → x.own k → ∃ o : Obj, W.heap[k]? = some o ∧ o.isCells = true
theorem solid_blk {g : Nat} {t : TypeId} {cs : Array Value} : (Item.blk g t cs).solid := fun W k h e => by
  cases e
  have h' : Blk W g t cs := h
  exact ⟨_, h', rfl⟩
theorem solid_row {v : Value} {l : List UInt8} : (Item.row v l).solid := fun W k h e => by
  have h' : BOwns W 0 v l := h
  have e' : v.ownBlock = some k := e
  rcases h'.2 with ⟨h2, _⟩ | ⟨g, cap, cur, hv, hg, hh, r⟩
  · rw [h2] at e'; cases e'
  · rw [hv] at e'; injection e' with e'; subst e'; exact ⟨_, hh, rfl⟩
theorem solid_rowT {e : TypeId} {size n : Nat} {v : Value} {xs : List Value} : (Item.rowT e size v n xs).solid := fun W k h e' => by
  have h' : W.ownsRow 0 e size v n xs := h
  have e' : v.ownBlock = some k := e'
  rcases h'.2 with ⟨h2, _⟩ | ⟨g, cap, cur, hv, hg, hh, r⟩
  · rw [h2] at e'; cases e'
  · rw [hv] at e'; injection e' with e'; subst e'; exact ⟨_, hh, rfl⟩
theorem solid_all {L : List Item} (h : ∀ i ∈ L, i.solid) : (Item.all L).solid := fun W k hp ⟨i, hi, ho⟩ => h i hi W k (hp.1 i hi) ho
theorem Turn.kept {w0 W W' : World} {x0 x : Item} {row : Option Nat} (h : Turn x0 w0 x W) (hs : x.solid) (hg : W.grownBy W' row) (hr : ∀ r, row = some r → w0.heap.size ≤ r ∧ ∃ o : Obj, W.heap[r]? = some o ∧ o.isCells = false) : Turn x0 w0 x W' := by
  have hk := Keeps.of_grown hg
  refine ⟨Item.far h.p hk fun k ho e => ?_, h.k.trans hk (fun i hi => ?_), h.o⟩
  · obtain ⟨_, o, h1, h2⟩ := hr k e.symm
    obtain ⟨o', h3, h4⟩ := hs _ k h.p ho
    rw [h1] at h3; injection h3 with h3; subst h3; rw [h2] at h4; cases h4
  · exact .inr (hr i hi.symm).1
theorem Turn.keepsFrom {W W' : World} {x y : Item} {B : Nat} (h : Turn x W y W') (hp : x.P W) (hs : x.solid) : KeepsFrom B W W' := by
  refine ⟨h.k.size, fun k o _ hk ho => ?_⟩
  have hlt : k < W.heap.size := (Array.getElem?_eq_some_iff.1 hk).1
  by_cases hx : x.own k
  · obtain ⟨o', h3, h4⟩ := hs _ k hp hx
    rw [hk] at h3; injection h3 with h3; subst h3; rw [ho] at h4; cases h4
  · exact (h.k.block k hlt hx).trans hk
end Go.Proofs.Ytmnpchncmbnddaa
/- The sum of bytes, by contract: steps, More, Of. -/
namespace Go.Proofs.Ytmnpchncmbnddaa
open Go.RowKit

end Go.Proofs.Ytmnpchncmbnddaa
/- The sum of bytes, by contract: More, Of. -/
namespace Go.Proofs.Ytmnpchncmbnddaa
open Go.RowKit

end Go.Proofs.Ytmnpchncmbnddaa
/- The reader's methods Int, Bytes, Text, Take: contracts against the plain reader (printed by a program of this claim's own). -/
namespace Go.Proofs.Ytmnpchncmbnddaa
open Go.RowKit
set_option linter.unusedSimpArgs false

end Go.Proofs.Ytmnpchncmbnddaa
/- The reader's Take at every kind: contracts (printed by a program of this claim's own). -/
namespace Go.Proofs.Ytmnpchncmbnddaa
open Go.RowKit
set_option linter.unusedSimpArgs false
end Go.Proofs.Ytmnpchncmbnddaa
/- What is read is put as just the bytes that were taken. No program in sight. -/
namespace Go.Proofs.Ytmnpchncmbnddaa
open Go.RowKit

end Go.Proofs.Ytmnpchncmbnddaa
/- What is put is read again: plain words on things, their bytes and their reading. No program in sight. -/
namespace Go.Proofs.Ytmnpchncmbnddaa
open Go.RowKit

structure Th where
  kind : Int
  v : Int
  n : Int
  p : List UInt8
/-- The bytes of a thing. -/
def Th.bytes (t : Th) : List UInt8 :=
  if t.kind = 0 then beN 1 (t.v.toNat % 256)
  else if t.kind = 1 then beN 2 (t.v.toNat % 65536)
  else if t.kind = 2 then beN 4 (t.v.toNat % 4294967296)
  else if t.kind = 3 then beN 8 t.v.toNat
  else if t.kind = 4 then intF t.n
  else if t.kind = 5 then intF t.p.length ++ t.p
  else intF t.p.length ++ t.p
/-- A reading of a thing: whether it answers the thing, and the reader behind it. -/
def Rd.back (r : Rd) (t : Th) : Bool × Rd :=
  if t.kind = 0 then (decide ((r.take 1).1 = t.v.toNat % 256), (r.take 1).2)
  else if t.kind = 1 then (decide ((r.take 2).1 = t.v.toNat % 65536), (r.take 2).2)
  else if t.kind = 2 then (decide ((r.take 4).1 = t.v.toNat % 4294967296), (r.take 4).2)
  else if t.kind = 3 then (decide ((r.take 8).1 = t.v.toNat), (r.take 8).2)
  else if t.kind = 4 then (decide ((r.int t.n t.n).1 = t.n), (r.int t.n t.n).2)
  else if t.kind = 5 then (decide ((r.bytes t.p.length).1 = t.p), (r.bytes t.p.length).2)
  else (decide ((r.bytes t.p.length).1 = t.p), (r.bytes t.p.length).2)

/-- The numbers of a thing are those of their kinds. -/
structure Th.ok (t : Th) : Prop where
  v0 : 0 ≤ t.v
  v1 : t.v < 18446744073709551616
  n0 : -9223372036854775808 ≤ t.n
  n1 : t.n ≤ 9223372036854775807
end Go.Proofs.Ytmnpchncmbnddaa
/- Frames, by contract: number, Make. -/
namespace Go.Proofs.Ytmnpchncmbnddaa
open Go.RowKit

end Go.Proofs.Ytmnpchncmbnddaa
/- Frames, by contract: Read. -/
namespace Go.Proofs.Ytmnpchncmbnddaa
open Go.RowKit

/-- What Read answers: the payload in new memory, and the size; or the error. -/
def ReadPost (w : World) (x : Except Int (List UInt8 × Nat)) (e : Ending) (w' : World) : Prop :=
  match x with
  | .ok (p, k) => ∃ v', e = .returned (.tuple #[v', .int .i64 k, .int .i64 0]) ∧ BOwns w' w.heap.size v' p ∧ Below w.heap.size w w'
  | .error m => e = .returned (.tuple #[.slice none 0 0, .int .i64 0, .int .i64 m]) ∧ Below w.heap.size w w'
theorem ReadPost.err {w w' : World} {x : Except Int (List UInt8 × Nat)} {m : Int} {e : Ending} (hx : x = .error m) (he : e = .returned (.tuple #[.slice none 0 0, .int .i64 0, .int .i64 m])) (hb : Below w.heap.size w w') : ReadPost w x e w' := by
  subst hx; exact ⟨he, hb⟩
end Go.Proofs.Ytmnpchncmbnddaa
/- frame.All, by contract: where each frame ends, and its payload. -/
namespace Go.Proofs.Ytmnpchncmbnddaa
open Go.RowKit Go.Shelf
attribute [local go_sem] Oper.semAt_some

/-- What a round is handed. -/
structure Got where
  at_ : Nat
  A : Option Addr
  c : Nat
  p : List UInt8
def Got.encs (x : Got) : Array Value := #[.int .i64 x.at_, .slice x.A x.p.length x.c]
def Got.key (x : Got) : Nat × List UInt8 := (x.at_, x.p)
def Got.rd (x : Got) (W : World) : Prop := BReads W W.heap.size x.A x.p ∧ x.p.length ≤ 65536
theorem Got.rd_own (B : Nat) : Go.OwnFrom B Got.rd := by
  intro x A B' row h hg hr
  refine ⟨⟨h.1.1, fun hp => ?_⟩, h.2⟩
  obtain ⟨b, off, e, hb, hc⟩ := h.1.2 hp
  refine ⟨b, off, e, Nat.lt_of_lt_of_le hb hg.size, fun j u hu => cell_kept (hc j u hu) hg (fun r e => (hr r e).2)⟩
/-- The blocks from m up to n stay. -/
def Mid (m n : Nat) (V V' : World) : Prop := V.heap.size ≤ V'.heap.size ∧ ∀ k, m ≤ k → k < n → V'.heap[k]? = V.heap[k]?
theorem Mid.refl (m n : Nat) (V : World) : Mid m n V V := ⟨Nat.le_refl _, fun _ _ _ => rfl⟩
theorem Mid.trans {m n : Nat} {A B C : World} (h : Mid m n A B) (k : Mid m n B C) : Mid m n A C := ⟨Nat.le_trans h.1 k.1, fun i h1 h2 => (k.2 i h1 h2).trans (h.2 i h1 h2)⟩
theorem Mid.of_below {m n : Nat} {A B : World} (h : Below A.heap.size A B) (hn : n ≤ A.heap.size) : Mid m n A B := ⟨h.size, fun k _ h2 => h.block k (by omega)⟩
theorem Mid.cell {m n : Nat} {A B : World} (h : Mid m n A B) {p : Addr} (h1 : m ≤ p.block) (h2 : p.block < n) : B.cell? p = A.cell? p := World.cell?_of_block (h.2 _ h1 h2)
theorem Mid.owns {m n : Nat} {A B : World} {v : Value} {l : List UInt8} (h : Mid m n A B) (ho : BOwns A m v l) (hn : ∀ k, v.ownBlock = some k → k < n) : BOwns B m v l := by
  have h2 := (Item.row v l).keep (w := A) (w' := B) (owns_less ho (Nat.zero_le _)) (fun k hk => h.2 k (ho.lt hk).1 (hn k hk))
  refine ⟨h2.1, ?_⟩
  rcases h2.2 with h3 | ⟨g, cap, cur, hv, _, r⟩
  · exact .inl h3
  · exact .inr ⟨g, cap, cur, hv, (ho.lt (by rw [hv]; rfl)).1, r⟩
end Go.Proofs.Ytmnpchncmbnddaa
/- Areas: how they lie in memory; Append, Sync, Bounds, Read, Cut, Trim: by contract. -/
namespace Go.Proofs.Ytmnpchncmbnddaa
open Go.RowKit

/-- An area: its block, its row's address and capacity; where it begins, its bytes, how many are safe. -/
structure Ar where
  g : Nat
  A : Option Addr
  c : Nat
  base : Int
  l : List UInt8
  safe : Nat
def Ar.v (a : Ar) : Value := .slice a.A a.l.length a.c
def Ar.cells (a : Ar) : Array Value := #[.int .i64 a.base, .slice a.A a.l.length a.c, .int .i64 a.safe]
def Ar.item (a : Ar) : Item := Item.all [Item.blk a.g 115 a.cells, Item.row a.v a.l]
section
variable {w w' : World} {a : Ar}
theorem Ar.blk (h : a.item.P w) : Blk w a.g 115 a.cells := Item.all_get h (List.mem_cons_self ..)
theorem Ar.row (h : a.item.P w) : BOwns w 0 a.v a.l := Item.all_get (x := Item.row a.v a.l) h (by simp)
theorem Ar.reads (h : a.item.P w) : BReads w w.heap.size a.A a.l := (show BOwns w 0 (.slice a.A a.l.length a.c) a.l from Ar.row h).reads
theorem Ar.cap (h : a.item.P w) : a.l.length ≤ a.c := by
  obtain ⟨A, c, e, hc, _⟩ := BOwns.slice (show BOwns w 0 (.slice a.A a.l.length a.c) a.l from Ar.row h)
  injection e with _ _ e; omega
end
/-- The same row, fewer bytes. -/
theorem BOwns.less {w : World} {base n c k : Nat} {A : Option Addr} {l : List UInt8} (h : BOwns w base (.slice A n c) l) (hk : k ≤ l.length) : BOwns w base (.slice A k c) (l.take k) := by
  have hl : (l.take k).length = k := by rw [List.length_take]; omega
  refine ⟨by rw [bys_length, Nat.mul_one], ?_⟩
  rw [hl]
  rcases h.2 with ⟨h1, h2⟩ | ⟨g, cap, cur, hv, hb, hh, hn, hcm, hs, ht⟩
  · have : k = 0 := by omega
    subst this
    injection h1 with e1 e2 e3
    subst e1; subst e3
    exact .inl ⟨rfl, rfl⟩
  · injection hv with e1 e2 e3
    subst e1; subst e3
    refine .inr ⟨g, _, cur, rfl, hb, hh, by omega, hcm, hs, ?_⟩
    rw [Nat.mul_one] at ht ⊢
    have : (cur.toList.take l.length).take k = (bys l).take k := by rw [ht]
    rw [List.take_take, show min k l.length = k from by omega] at this
    rw [this]; simp [bys, List.map_take]
end Go.Proofs.Ytmnpchncmbnddaa
/- Areas: Cut, Trim, Crash: by contract. -/
namespace Go.Proofs.Ytmnpchncmbnddaa
open Go.RowKit

end Go.Proofs.Ytmnpchncmbnddaa
/- Disks: how they lie in memory; find, Bounds, Read, Done: by contract. -/
namespace Go.Proofs.Ytmnpchncmbnddaa
open Go.RowKit

/-- A part of a disk: its area, its fate, how many operations were carried out. -/
structure Pt where
  a : Ar
  fd : Int
  fk : Int
  ft : Int
  done : Int
def Pt.cells (p : Pt) : List Value := [.pointer (some ⟨p.a.g, 0, none⟩), .int .i64 p.fd, .int .i64 p.fk, .int .u8 p.ft, .int .i64 p.done]
def partCells (ps : List Pt) : Array Value := (ps.map Pt.cells).flatten.toArray
theorem flat_get {α : Type} {L : List (List α)} {n : Nat} (h : ∀ x ∈ L, x.length = n) {i j : Nat} {x : List α} (hi : L[i]? = some x) (hj : j < n) : L.flatten[i * n + j]? = x[j]? := by
  induction L generalizing i with
  | nil => cases hi
  | cons y L ih =>
    have hy := h y (by simp)
    rw [List.flatten_cons]
    cases i with
    | zero =>
      simp only [List.getElem?_cons_zero, Option.some.injEq] at hi
      subst hi
      rw [List.getElem?_append_left (by omega)]; simp
    | succ i =>
      simp only [List.getElem?_cons_succ] at hi
      rw [List.getElem?_append_right (by rw [hy]; rw [Nat.add_mul]; omega), hy, show (i + 1) * n + j - n = i * n + j from by rw [Nat.add_mul]; omega]
      exact ih (fun x hx => h x (by simp [hx])) hi
theorem pt_len (ps : List Pt) : ∀ x ∈ ps.map Pt.cells, x.length = 5 := by
  intro x hx
  obtain ⟨p, _, rfl⟩ := List.mem_map.1 hx
  rfl
theorem partCells_get {ps : List Pt} {i j : Nat} {p : Pt} (hi : ps[i]? = some p) (hj : j < 5) : (partCells ps)[i * 5 + j]? = p.cells[j]? := by
  unfold partCells
  rw [List.getElem?_toArray]
  exact flat_get (pt_len ps) (by rw [List.getElem?_map, hi]; rfl) hj
/-- A disk. -/
structure Dk where
  g : Nat
  gp : Nat
  armed : Bool
  ps : List Pt
def Dk.pieces (d : Dk) : List Item := Item.blk d.g 57 #[.slice (some ⟨d.gp, 0, none⟩) d.ps.length d.ps.length, .bool d.armed] :: Item.blk d.gp 63 (partCells d.ps) :: d.ps.map (fun p => p.a.item)
def Dk.item (d : Dk) : Item := Item.all d.pieces
section
variable {w w' : World} {d : Dk}
theorem Dk.blk (h : d.item.P w) : Blk w d.g 57 #[.slice (some ⟨d.gp, 0, none⟩) d.ps.length d.ps.length, .bool d.armed] := Item.all_get h (List.mem_cons_self ..)
theorem Dk.parts (h : d.item.P w) : Blk w d.gp 63 (partCells d.ps) := Item.all_get h (List.mem_cons_of_mem _ (List.mem_cons_self ..))
theorem Dk.area (h : d.item.P w) {i : Nat} {p : Pt} (hi : d.ps[i]? = some p) : p.a.item.P w :=
  Item.all_get h (List.mem_cons_of_mem _ (List.mem_cons_of_mem _ (List.mem_map.2 ⟨p, List.mem_of_getElem? hi, rfl⟩)))
theorem Dk.cell (h : d.item.P w) {i : Nat} {p : Pt} (hi : d.ps[i]? = some p) {j : Nat} (hj : j < 5) : w.cell? ⟨d.gp, i * 5 + j, none⟩ = p.cells[j]? := by
  rw [(Dk.parts h).cell, partCells_get hi hj]
end
def Dk.put (d : Dk) (i : Nat) (q : Pt) : Dk := { d with ps := d.ps.set i q }
end Go.Proofs.Ytmnpchncmbnddaa
/- Disks: Append, Sync, Cut, Trim, by contract (printed by a program of this claim's own). -/
namespace Go.Proofs.Ytmnpchncmbnddaa
open Go.RowKit

/-- The operation was carried out: the area is another one, one operation more is done. -/
def OpPost (d : Dk) (i : Nat) (p : Pt) (w : World) (R : Ar → Prop) (e : Ending) (w' : World) : Prop :=
  ∃ b, R b ∧ b.g = p.a.g ∧ e = .returned (.int .i64 0) ∧ Turn d.item w (d.put i { p with a := b, done := p.done + 1 }).item w'
end Go.Proofs.Ytmnpchncmbnddaa
/- Disks: Append, Sync, Cut, Trim, Bounds, Read, Done, by contract (printed by a program of this claim's own). -/
namespace Go.Proofs.Ytmnpchncmbnddaa
open Go.RowKit

theorem OpPost.pre {d : Dk} {i : Nat} {p : Pt} {w w1 : World} {R : Ar → Prop} {e : Ending} {w' : World} (hb : Below w.heap.size w w1) (h : OpPost d i p w1 R e w') : OpPost d i p w R e w' := by
  obtain ⟨b, h1, h2, h3, h4⟩ := h
  exact ⟨b, h1, h2, h3, Turn.pre hb h4⟩
end Go.Proofs.Ytmnpchncmbnddaa
/- Disks: New, by contract. -/
namespace Go.Proofs.Ytmnpchncmbnddaa
open Go.RowKit

end Go.Proofs.Ytmnpchncmbnddaa
/- Logs: Open, Sync, Cut, Trim, Bounds, by contract (printed by a program of this claim's own). -/
namespace Go.Proofs.Ytmnpchncmbnddaa
open Go.RowKit

end Go.Proofs.Ytmnpchncmbnddaa
/- Entries and versions as arguments: how they lie in memory. -/
namespace Go.Proofs.Ytmnpchncmbnddaa
open Go.RowKit

def kEn : Kd En := kAs (kPair (kInt .i64) (kPair (kInt .i64) (kPair (kInt .i64) (kPair kStr (kPair kBytes kBool))))) (fun s => (s.kind, s.stamp, s.count, s.key, s.value, s.dead))
set_option maxRecDepth 100000 in
theorem opens_en : Opens kEn 26 :=
  opens_as (opens_struct (K := kPair (kInt .i64) (kPair (kInt .i64) (kPair (kInt .i64) (kPair kStr (kPair kBytes kBool))))) (by kernel_rfl) Try.underlying26
    (opensF_cons (opens_int (by kernel_rfl) Try.underlying3) rfl (opensF_cons (opens_int (by kernel_rfl) Try.underlying3) rfl (opensF_cons (opens_int (by kernel_rfl) Try.underlying3) rfl
      (opensF_cons (opens_str (by kernel_rfl) Try.underlying9) rfl (opensF_cons (opens_bytes (T := 22) (E := 5) (by kernel_rfl) Try.underlying22 Try.underlying5 (by kernel_rfl) (by kernel_rfl)) rfl
        (opensF_one (opens_bool (by kernel_rfl) Try.underlying4) rfl)))))))
    (fun s : En => (s.kind, s.stamp, s.count, s.key, s.value, s.dead)) (fun a => ⟨a.1, a.2.1, a.2.2.1, a.2.2.2.1, a.2.2.2.2.1, a.2.2.2.2.2⟩) (fun _ => rfl)
def kVn : Kd Vn := kAs (kPair kStr (kPair (kInt .i64) (kPair kBytes kBool))) (fun s => (s.key, s.stamp, s.value, s.dead))
/-- The numbers of an entry are ints. -/
def En.ints (x : En) : Prop := (-9223372036854775808 ≤ x.kind ∧ x.kind ≤ 9223372036854775807) ∧ (-9223372036854775808 ≤ x.stamp ∧ x.stamp ≤ 9223372036854775807) ∧ (-9223372036854775808 ≤ x.count ∧ x.count ≤ 9223372036854775807)
def Vn.ints (x : Vn) : Prop := -9223372036854775808 ≤ x.stamp ∧ x.stamp ≤ 9223372036854775807
theorem en_R {w : World} {B : Nat} {t : En} {cs : List Value} (h : kEn.R w B t cs) : ∃ A' c', cs = (t.cells A' c').toList ∧ t.ints ∧ BReads w B A' t.value ∧ t.value.length ≤ c' := by
  obtain ⟨c1, c2, rfl, ⟨rfl, hk⟩, c3, c4, rfl, ⟨rfl, hs⟩, c5, c6, rfl, ⟨rfl, hn⟩, c7, c8, rfl, rfl, c9, c10, rfl, ⟨A', c', rfl, hc, hp⟩, rfl⟩ := h
  have hk' : -9223372036854775808 ≤ t.kind ∧ t.kind ≤ 9223372036854775807 := by simpa [Lit.wf, IntKind.min, IntKind.max, IntKind.signed, IntKind.bits] using hk
  have hs' : -9223372036854775808 ≤ t.stamp ∧ t.stamp ≤ 9223372036854775807 := by simpa [Lit.wf, IntKind.min, IntKind.max, IntKind.signed, IntKind.bits] using hs
  have hn' : -9223372036854775808 ≤ t.count ∧ t.count ≤ 9223372036854775807 := by simpa [Lit.wf, IntKind.min, IntKind.max, IntKind.signed, IntKind.bits] using hn
  exact ⟨A', c', rfl, ⟨hk', hs', hn'⟩, hp, hc⟩
theorem vn_R {w : World} {B : Nat} {t : Vn} {cs : List Value} (h : kVn.R w B t cs) : ∃ A' c', cs = (t.cells A' c').toList ∧ t.ints ∧ BReads w B A' t.value ∧ t.value.length ≤ c' := by
  obtain ⟨c1, c2, rfl, rfl, c3, c4, rfl, ⟨rfl, hs⟩, c5, c6, rfl, ⟨A', c', rfl, hc, hp⟩, rfl⟩ := h
  have hs' : -9223372036854775808 ≤ t.stamp ∧ t.stamp ≤ 9223372036854775807 := by simpa [Lit.wf, IntKind.min, IntKind.max, IntKind.signed, IntKind.bits] using hs
  exact ⟨A', c', rfl, hs', hp, hc⟩
theorem en_bulk (t : En) : t.key.size + t.value.length ≤ kEn.bulk t := by
  show _ ≤ 1 + (1 + (1 + ((t.key.size + 1) + ((t.value.length + 1) + 1)))); omega
end Go.Proofs.Ytmnpchncmbnddaa
/- Logs: Write, by contract. -/
namespace Go.Proofs.Ytmnpchncmbnddaa
open Go.RowKit

theorem en_at {w : World} {B : Nat} {A : Option Addr} {l : List En} (h : kEn.Sl w B A l) {i : Nat} (hi : i < l.length) :
    ∃ b off A' c', A = some ⟨b, off, none⟩ ∧ b < B ∧ (l[i]).ints ∧ w.cell? ⟨b, off + i * 6, none⟩ = some (.int .i64 (l[i]).kind) ∧ w.cell? ⟨b, off + i * 6 + 1, none⟩ = some (.int .i64 (l[i]).stamp) ∧
      w.cell? ⟨b, off + i * 6 + 2, none⟩ = some (.int .i64 (l[i]).count) ∧ w.cell? ⟨b, off + i * 6 + 3, none⟩ = some (.string (l[i]).key) ∧ w.cell? ⟨b, off + i * 6 + 4, none⟩ = some (.slice A' (l[i]).value.length c') ∧
      w.cell? ⟨b, off + i * 6 + 5, none⟩ = some (.bool (l[i]).dead) ∧ BReads w B A' (l[i]).value := by
  obtain ⟨b, off, hA, hb, hr⟩ := h (by omega)
  obtain ⟨cs, hR, hc⟩ := hr i _ (List.getElem?_eq_getElem hi)
  obtain ⟨A', c', rfl, h1, h2, _⟩ := en_R hR
  exact ⟨b, off, A', c', hA, hb, h1, hc 0 _ rfl, hc 1 _ rfl, hc 2 _ rfl, hc 3 _ rfl, hc 4 _ rfl, hc 5 _ rfl, h2⟩
/-- What holds in every world in which the blocks outside of S are as they were. -/
def Stays (S : Nat → Prop) (w : World) (Q : World → Prop) : Prop := ∀ w' : World, (∀ k, k < w.heap.size → ¬ S k → w'.heap[k]? = w.heap[k]?) → Q w'
theorem Stays.at_ {S : Nat → Prop} {w w' : World} {Q : World → Prop} (h : Stays S w Q) (hk : Keeps S w w') : Q w' := h w' fun k hlt hn => hk.block k hlt hn
end Go.Proofs.Ytmnpchncmbnddaa
/- The plain reader: bounds. No program in sight. -/
namespace Go.Proofs.Ytmnpchncmbnddaa
open Go.RowKit

end Go.Proofs.Ytmnpchncmbnddaa
/- Reading an entry off its bytes: there and back, in plain words. -/
namespace Go.Proofs.Ytmnpchncmbnddaa
open Go.RowKit

/-- Whatever entry has these bytes, the reading has told it. -/
def Tells (b : List UInt8) (x : En) (r : Rd) : Prop := ∀ y : En, y.may → y.enc = b → y = x ∧ r.end_ = 0
theorem Tells.no {b : List UInt8} {x : En} {r : Rd} (h : Tells b x r) (hn : ¬ (x.may ∧ x.enc = b ∧ r.end_ = 0)) : ¬ ∃ y : En, y.may ∧ y.enc = b := by
  rintro ⟨y, hm, he⟩
  obtain ⟨rfl, h2⟩ := h y hm he
  exact hn ⟨hm, he, h2⟩
end Go.Proofs.Ytmnpchncmbnddaa
/- What a log tells of bytes: the plain law. -/
namespace Go.Proofs.Ytmnpchncmbnddaa
open Go.RowKit

end Go.Proofs.Ytmnpchncmbnddaa
/- Log.Entries: what is told so far. -/
namespace Go.Proofs.Ytmnpchncmbnddaa
open Go.RowKit

/-- An entry that is told: where its value lies. -/
structure Told where
  x : En
  A : Option Addr
  c : Nat
def toldCells (ts : List Told) : List Value := ts.flatMap fun t => (t.x.cells t.A t.c).toList
def toldRows (ts : List Told) : List Item := ts.map fun t => Item.row (.slice t.A t.x.value.length t.c) t.x.value
/-- A function that holds a range over a function returns. -/
theorem marks_ret {F : Fence} {n : Nat} {P : Program} {fn : Func} {R : Ending → World → Prop} {a : Act} {w : World} {v : Value} {D : Nat} (hd : a.defers = [{ target := .collected D, args := #[] }]) (hD : w.heap[D]? = some (.deferred (some [])))
    (hr : ∀ w', (results fn a.tmps).run P w' = .ok v w') (hR : R (.returned v) (w.putObj D (.deferred none))) : bodyPostM F n P fn R .ret a w := by
  show LeavesInM F n P fn a.tmps R a.defers .returning w
  rw [hd]
  exact ⟨by simp, .inl ⟨_, _, rfl, run_takeDeferred hD, v, hr _, hR⟩⟩
theorem toldCells_snoc (ts : List Told) (t : Told) : toldCells (ts ++ [t]) = toldCells ts ++ (t.x.cells t.A t.c).toList := by simp [toldCells]
theorem toldRows_snoc (ts : List Told) (t : Told) : toldRows (ts ++ [t]) = toldRows ts ++ [Item.row (.slice t.A t.x.value.length t.c) t.x.value] := by simp [toldRows]
end Go.Proofs.Ytmnpchncmbnddaa
/- Logs: Group, by contract. -/
namespace Go.Proofs.Ytmnpchncmbnddaa
open Go.RowKit

end Go.Proofs.Ytmnpchncmbnddaa
/- number and row of the reference, by contract. -/
namespace Go.Proofs.Ytmnpchncmbnddaa
open Go.RowKit

end Go.Proofs.Ytmnpchncmbnddaa
/- What the reference's Decode reads, in plain words: numbers and rows at a place, -1 for none. -/
namespace Go.Proofs.Ytmnpchncmbnddaa
open Go.RowKit

/-- The reading has told whatever entry has these bytes; and an entry that it tells, if the reading went to the end, has them. -/
def RTells (b : List UInt8) (x : En) (t : Int) : Prop := (∀ y : En, y.may → y.enc = b → y = x ∧ t = b.length) ∧ (x.may → t = b.length → x.enc = b)
theorem RTells.no {b : List UInt8} {x : En} {t : Int} (h : RTells b x t) (hn : ¬ (x.may ∧ t = b.length)) : ¬ ∃ y : En, y.may ∧ y.enc = b := by
  rintro ⟨y, hm, he⟩
  obtain ⟨rfl, h2⟩ := h.1 y hm he
  exact hn ⟨hm, h2⟩
end Go.Proofs.Ytmnpchncmbnddaa
/- row of the reference, by contract. -/
namespace Go.Proofs.Ytmnpchncmbnddaa
open Go.RowKit

end Go.Proofs.Ytmnpchncmbnddaa
/- The reference's words on kinds, by contract (printed by a program of this claim's own). -/
namespace Go.Proofs.Ytmnpchncmbnddaa
open Go.RowKit

def keyedF (k : Int) : Bool := decide (k = 1 ∨ k = 2 ∨ k = 5)
def valuedF (k : Int) : Bool := decide (k = 1 ∨ k = 5)
def countedF (k : Int) : Bool := decide (k = 3 ∨ k = 4 ∨ k = 6)
def stampedF (k : Int) : Bool := decide (k = 3 ∨ k = 4 ∨ k = 6 ∨ k = 5)
theorem keyed_any {w : World} (k : Int) : Calls Try.prog 104 #[.int .i64 k] w fun e w' => e = .returned (.bool (keyedF k)) ∧ w = w' := by
  by_cases h1 : k = 1
  · subst h1
    go_enter Try.func104, Try.ntmps104
    go_wp2
    go_ret
    exact ⟨rfl, rfl⟩
  by_cases h2 : k = 2
  · subst h2
    go_enter Try.func104, Try.ntmps104
    go_wp2
    go_ret
    exact ⟨rfl, rfl⟩
  by_cases h5 : k = 5
  · subst h5
    go_enter Try.func104, Try.ntmps104
    go_wp2
    go_ret
    exact ⟨rfl, rfl⟩
  have HE := Lib.hid (show keyedF k = false from decide_eq_false (by omega))
  have k1 : (k == 1) = false := by rw [beq_eq_false_iff_ne]; exact h1
  have k2 : (k == 2) = false := by rw [beq_eq_false_iff_ne]; exact h2
  have k5 : (k == 5) = false := by rw [beq_eq_false_iff_ne]; exact h5
  clear h1 h2 h5
  go_enter Try.func104, Try.ntmps104
  go_wp2
  go_ret
  exact ⟨by rw [HE.out]; rfl, rfl⟩
theorem valued_any {w : World} (k : Int) : Calls Try.prog 105 #[.int .i64 k] w fun e w' => e = .returned (.bool (valuedF k)) ∧ w = w' := by
  by_cases h1 : k = 1
  · subst h1
    go_enter Try.func105, Try.ntmps105
    go_wp2
    go_ret
    exact ⟨rfl, rfl⟩
  by_cases h5 : k = 5
  · subst h5
    go_enter Try.func105, Try.ntmps105
    go_wp2
    go_ret
    exact ⟨rfl, rfl⟩
  have HE := Lib.hid (show valuedF k = false from decide_eq_false (by omega))
  have k1 : (k == 1) = false := by rw [beq_eq_false_iff_ne]; exact h1
  have k5 : (k == 5) = false := by rw [beq_eq_false_iff_ne]; exact h5
  clear h1 h5
  go_enter Try.func105, Try.ntmps105
  go_wp2
  go_ret
  exact ⟨by rw [HE.out]; rfl, rfl⟩
theorem counted_any {w : World} (k : Int) : Calls Try.prog 107 #[.int .i64 k] w fun e w' => e = .returned (.bool (countedF k)) ∧ w = w' := by
  by_cases h3 : k = 3
  · subst h3
    go_enter Try.func107, Try.ntmps107
    go_wp2
    go_ret
    exact ⟨rfl, rfl⟩
  by_cases h4 : k = 4
  · subst h4
    go_enter Try.func107, Try.ntmps107
    go_wp2
    go_ret
    exact ⟨rfl, rfl⟩
  by_cases h6 : k = 6
  · subst h6
    go_enter Try.func107, Try.ntmps107
    go_wp2
    go_ret
    exact ⟨rfl, rfl⟩
  have HE := Lib.hid (show countedF k = false from decide_eq_false (by omega))
  have k3 : (k == 3) = false := by rw [beq_eq_false_iff_ne]; exact h3
  have k4 : (k == 4) = false := by rw [beq_eq_false_iff_ne]; exact h4
  have k6 : (k == 6) = false := by rw [beq_eq_false_iff_ne]; exact h6
  clear h3 h4 h6
  go_enter Try.func107, Try.ntmps107
  go_wp2
  go_ret
  exact ⟨by rw [HE.out]; rfl, rfl⟩
theorem stamped_any {w : World} (k : Int) : Calls Try.prog 106 #[.int .i64 k] w fun e w' => e = .returned (.bool (stampedF k)) ∧ w = w' := by
  by_cases h3 : k = 3
  · subst h3
    go_enter Try.func106, Try.ntmps106
    go_wp2_with fail
    refine (counted_any 3).mono ?_
    rintro e w1 ⟨rfl, rfl⟩
    rw [show countedF 3 = true from rfl]
    go_wp2
    go_ret
    exact ⟨rfl, rfl⟩
  by_cases h4 : k = 4
  · subst h4
    go_enter Try.func106, Try.ntmps106
    go_wp2_with fail
    refine (counted_any 4).mono ?_
    rintro e w1 ⟨rfl, rfl⟩
    rw [show countedF 4 = true from rfl]
    go_wp2
    go_ret
    exact ⟨rfl, rfl⟩
  by_cases h5 : k = 5
  · subst h5
    go_enter Try.func106, Try.ntmps106
    go_wp2_with fail
    refine (counted_any 5).mono ?_
    rintro e w1 ⟨rfl, rfl⟩
    rw [show countedF 5 = false from rfl]
    go_wp2
    go_ret
    exact ⟨rfl, rfl⟩
  by_cases h6 : k = 6
  · subst h6
    go_enter Try.func106, Try.ntmps106
    go_wp2_with fail
    refine (counted_any 6).mono ?_
    rintro e w1 ⟨rfl, rfl⟩
    rw [show countedF 6 = true from rfl]
    go_wp2
    go_ret
    exact ⟨rfl, rfl⟩
  have HE := Lib.hid (show stampedF k = false from decide_eq_false (by omega))
  have HC := Lib.hid (show countedF k = false from decide_eq_false (by omega))
  have k3 : (k == 3) = false := by rw [beq_eq_false_iff_ne]; exact h3
  have k4 : (k == 4) = false := by rw [beq_eq_false_iff_ne]; exact h4
  have k5 : (k == 5) = false := by rw [beq_eq_false_iff_ne]; exact h5
  have k6 : (k == 6) = false := by rw [beq_eq_false_iff_ne]; exact h6
  clear h3 h4 h5 h6
  go_enter Try.func106, Try.ntmps106
  go_wp2_with fail
  refine (counted_any k).mono ?_
  rintro e w1 ⟨rfl, rfl⟩
  rw [HC.out]
  go_wp2
  go_ret
  exact ⟨by rw [HE.out]; rfl, rfl⟩
end Go.Proofs.Ytmnpchncmbnddaa
/- The reference's Check at some kinds, by contract (printed by a program of this claim's own). -/
namespace Go.Proofs.Ytmnpchncmbnddaa
open Go.RowKit
set_option maxRecDepth 100000 in
set_option maxHeartbeats 3200000 in
theorem rcheck_1_true_any {w : World} {A : Option Addr} {c : Nat} (s : Int) (n : Int) (key : ByteArray) (v : List UInt8) (hks : key.size ≤ 140737488355328) (hvl : v.length ≤ 140737488355328) :
    Calls Try.prog 70 #[.agg (En.cells ⟨1, s, n, key, v, true⟩ A c)] w fun e w' => e = .returned (.int .i64 (En.chk ⟨1, s, n, key, v, true⟩)) ∧ Below w.heap.size w w' := by
  unfold En.cells
  simp only
  go_enter Try.func70, Try.ntmps70
  go_wp2_with (first | (go_at_call 104; refine (keyed_any 1).mono ?_; rintro e w1 ⟨rfl, rfl⟩; rw [show keyedF 1 = true from rfl]) | (go_at_call 105; refine (valued_any 1).mono ?_; rintro e w1 ⟨rfl, rfl⟩; rw [show valuedF 1 = true from rfl]) | (go_at_call 106; refine (stamped_any 1).mono ?_; rintro e w1 ⟨rfl, rfl⟩; rw [show stampedF 1 = false from rfl]) | (go_at_call 107; refine (counted_any 1).mono ?_; rintro e w1 ⟨rfl, rfl⟩; rw [show countedF 1 = false from rfl]))
  all_goals go_ret
  all_goals (refine ⟨?_, (Below.refl _ _).alloc (Nat.le_refl _) _⟩)
  all_goals (first | (rw [En.chk_no (by rw [may_1]; rintro ⟨q0, q1, q2, q3, q4, q5⟩; first | omega | cases q4)]; rfl) | (rw [En.chk_ok (by rw [may_1]; exact ⟨by omega, by omega, by omega, rfl, rfl, by omega⟩)]; rfl))
set_option maxRecDepth 100000 in
set_option maxHeartbeats 3200000 in
theorem rcheck_1_false_z {w : World} {A : Option Addr} {c : Nat} (s : Int) (key : ByteArray) (v : List UInt8) (hks : key.size ≤ 140737488355328) (hvl : v.length ≤ 140737488355328) :
    Calls Try.prog 70 #[.agg (En.cells ⟨1, s, 0, key, v, false⟩ A c)] w fun e w' => e = .returned (.int .i64 (En.chk ⟨1, s, 0, key, v, false⟩)) ∧ Below w.heap.size w w' := by
  unfold En.cells
  simp only
  go_enter Try.func70, Try.ntmps70
  go_wp2_with (first | (go_at_call 104; refine (keyed_any 1).mono ?_; rintro e w1 ⟨rfl, rfl⟩; rw [show keyedF 1 = true from rfl]) | (go_at_call 105; refine (valued_any 1).mono ?_; rintro e w1 ⟨rfl, rfl⟩; rw [show valuedF 1 = true from rfl]) | (go_at_call 106; refine (stamped_any 1).mono ?_; rintro e w1 ⟨rfl, rfl⟩; rw [show stampedF 1 = false from rfl]) | (go_at_call 107; refine (counted_any 1).mono ?_; rintro e w1 ⟨rfl, rfl⟩; rw [show countedF 1 = false from rfl]))
  all_goals go_ret
  all_goals (refine ⟨?_, (Below.refl _ _).alloc (Nat.le_refl _) _⟩)
  all_goals (first | (rw [En.chk_no (by rw [may_1]; rintro ⟨q0, q1, q2, q3, q4, q5⟩; first | omega | cases q4)]; rfl) | (rw [En.chk_ok (by rw [may_1]; exact ⟨by omega, by omega, by omega, rfl, rfl, by omega⟩)]; rfl))
set_option maxRecDepth 100000 in
set_option maxHeartbeats 3200000 in
theorem rcheck_1_false_nz {w : World} {A : Option Addr} {c : Nat} (s : Int) (n : Int) (key : ByteArray) (v : List UInt8) (hks : key.size ≤ 140737488355328) (hvl : v.length ≤ 140737488355328) (hn : ¬ n = 0) :
    Calls Try.prog 70 #[.agg (En.cells ⟨1, s, n, key, v, false⟩ A c)] w fun e w' => e = .returned (.int .i64 (En.chk ⟨1, s, n, key, v, false⟩)) ∧ Below w.heap.size w w' := by
  unfold En.cells
  simp only
  have hN0 : (n != 0) = true := by rw [bne_iff_ne]; exact hn
  go_enter Try.func70, Try.ntmps70
  go_wp2_with (first | (go_at_call 104; refine (keyed_any 1).mono ?_; rintro e w1 ⟨rfl, rfl⟩; rw [show keyedF 1 = true from rfl]) | (go_at_call 105; refine (valued_any 1).mono ?_; rintro e w1 ⟨rfl, rfl⟩; rw [show valuedF 1 = true from rfl]) | (go_at_call 106; refine (stamped_any 1).mono ?_; rintro e w1 ⟨rfl, rfl⟩; rw [show stampedF 1 = false from rfl]) | (go_at_call 107; refine (counted_any 1).mono ?_; rintro e w1 ⟨rfl, rfl⟩; rw [show countedF 1 = false from rfl]))
  all_goals go_ret
  all_goals (refine ⟨?_, (Below.refl _ _).alloc (Nat.le_refl _) _⟩)
  all_goals (first | (rw [En.chk_no (by rw [may_1]; rintro ⟨q0, q1, q2, q3, q4, q5⟩; first | omega | cases q4)]; rfl) | (rw [En.chk_ok (by rw [may_1]; exact ⟨by omega, by omega, by omega, rfl, rfl, by omega⟩)]; rfl))
end Go.Proofs.Ytmnpchncmbnddaa
/- The reference's Check at some kinds, by contract (printed by a program of this claim's own). -/
namespace Go.Proofs.Ytmnpchncmbnddaa
open Go.RowKit
set_option maxRecDepth 100000 in
set_option maxHeartbeats 3200000 in
theorem rcheck_2_true_any {w : World} {A : Option Addr} {c : Nat} (s : Int) (n : Int) (key : ByteArray) (v : List UInt8) (hks : key.size ≤ 140737488355328) (hvl : v.length ≤ 140737488355328) :
    Calls Try.prog 70 #[.agg (En.cells ⟨2, s, n, key, v, true⟩ A c)] w fun e w' => e = .returned (.int .i64 (En.chk ⟨2, s, n, key, v, true⟩)) ∧ Below w.heap.size w w' := by
  unfold En.cells
  simp only
  go_enter Try.func70, Try.ntmps70
  go_wp2_with (first | (go_at_call 104; refine (keyed_any 2).mono ?_; rintro e w1 ⟨rfl, rfl⟩; rw [show keyedF 2 = true from rfl]) | (go_at_call 105; refine (valued_any 2).mono ?_; rintro e w1 ⟨rfl, rfl⟩; rw [show valuedF 2 = false from rfl]) | (go_at_call 106; refine (stamped_any 2).mono ?_; rintro e w1 ⟨rfl, rfl⟩; rw [show stampedF 2 = false from rfl]) | (go_at_call 107; refine (counted_any 2).mono ?_; rintro e w1 ⟨rfl, rfl⟩; rw [show countedF 2 = false from rfl]))
  all_goals go_ret
  all_goals (refine ⟨?_, (Below.refl _ _).alloc (Nat.le_refl _) _⟩)
  all_goals (first | (rw [En.chk_no (by rw [may_2]; rintro ⟨q0, q1, q2, q3, q4, q5⟩; first | omega | cases q4)]; rfl) | (rw [En.chk_ok (by rw [may_2]; exact ⟨by omega, by omega, by omega, rfl, rfl, by omega⟩)]; rfl))
set_option maxRecDepth 100000 in
set_option maxHeartbeats 3200000 in
theorem rcheck_2_false_z {w : World} {A : Option Addr} {c : Nat} (s : Int) (key : ByteArray) (v : List UInt8) (hks : key.size ≤ 140737488355328) (hvl : v.length ≤ 140737488355328) :
    Calls Try.prog 70 #[.agg (En.cells ⟨2, s, 0, key, v, false⟩ A c)] w fun e w' => e = .returned (.int .i64 (En.chk ⟨2, s, 0, key, v, false⟩)) ∧ Below w.heap.size w w' := by
  unfold En.cells
  simp only
  go_enter Try.func70, Try.ntmps70
  go_wp2_with (first | (go_at_call 104; refine (keyed_any 2).mono ?_; rintro e w1 ⟨rfl, rfl⟩; rw [show keyedF 2 = true from rfl]) | (go_at_call 105; refine (valued_any 2).mono ?_; rintro e w1 ⟨rfl, rfl⟩; rw [show valuedF 2 = false from rfl]) | (go_at_call 106; refine (stamped_any 2).mono ?_; rintro e w1 ⟨rfl, rfl⟩; rw [show stampedF 2 = false from rfl]) | (go_at_call 107; refine (counted_any 2).mono ?_; rintro e w1 ⟨rfl, rfl⟩; rw [show countedF 2 = false from rfl]))
  all_goals go_ret
  all_goals (refine ⟨?_, (Below.refl _ _).alloc (Nat.le_refl _) _⟩)
  all_goals (first | (rw [En.chk_no (by rw [may_2]; rintro ⟨q0, q1, q2, q3, q4, q5⟩; first | omega | cases q4)]; rfl) | (rw [En.chk_ok (by rw [may_2]; exact ⟨by omega, by omega, by omega, rfl, rfl, by omega⟩)]; rfl))
set_option maxRecDepth 100000 in
set_option maxHeartbeats 3200000 in
theorem rcheck_2_false_nz {w : World} {A : Option Addr} {c : Nat} (s : Int) (n : Int) (key : ByteArray) (v : List UInt8) (hks : key.size ≤ 140737488355328) (hvl : v.length ≤ 140737488355328) (hn : ¬ n = 0) :
    Calls Try.prog 70 #[.agg (En.cells ⟨2, s, n, key, v, false⟩ A c)] w fun e w' => e = .returned (.int .i64 (En.chk ⟨2, s, n, key, v, false⟩)) ∧ Below w.heap.size w w' := by
  unfold En.cells
  simp only
  have hN0 : (n != 0) = true := by rw [bne_iff_ne]; exact hn
  go_enter Try.func70, Try.ntmps70
  go_wp2_with (first | (go_at_call 104; refine (keyed_any 2).mono ?_; rintro e w1 ⟨rfl, rfl⟩; rw [show keyedF 2 = true from rfl]) | (go_at_call 105; refine (valued_any 2).mono ?_; rintro e w1 ⟨rfl, rfl⟩; rw [show valuedF 2 = false from rfl]) | (go_at_call 106; refine (stamped_any 2).mono ?_; rintro e w1 ⟨rfl, rfl⟩; rw [show stampedF 2 = false from rfl]) | (go_at_call 107; refine (counted_any 2).mono ?_; rintro e w1 ⟨rfl, rfl⟩; rw [show countedF 2 = false from rfl]))
  all_goals go_ret
  all_goals (refine ⟨?_, (Below.refl _ _).alloc (Nat.le_refl _) _⟩)
  all_goals (first | (rw [En.chk_no (by rw [may_2]; rintro ⟨q0, q1, q2, q3, q4, q5⟩; first | omega | cases q4)]; rfl) | (rw [En.chk_ok (by rw [may_2]; exact ⟨by omega, by omega, by omega, rfl, rfl, by omega⟩)]; rfl))
end Go.Proofs.Ytmnpchncmbnddaa
/- The reference's Check at some kinds, by contract (printed by a program of this claim's own). -/
namespace Go.Proofs.Ytmnpchncmbnddaa
open Go.RowKit
set_option maxRecDepth 100000 in
set_option maxHeartbeats 3200000 in
theorem rcheck_m_true_any {w : World} {A : Option Addr} {c : Nat} (k : Int) (hm : k = 3 ∨ k = 4 ∨ k = 6) (s : Int) (n : Int) (key : ByteArray) (v : List UInt8) (hks : key.size ≤ 140737488355328) (hvl : v.length ≤ 140737488355328) :
    Calls Try.prog 70 #[.agg (En.cells ⟨k, s, n, key, v, true⟩ A c)] w fun e w' => e = .returned (.int .i64 (En.chk ⟨k, s, n, key, v, true⟩)) ∧ Below w.heap.size w w' := by
  unfold En.cells
  simp only
  have HM := Lib.hid hm
  have Hkeyed := Lib.hid (show keyedF k = false from decide_eq_false (by omega))
  have Hvalued := Lib.hid (show valuedF k = false from decide_eq_false (by omega))
  have Hcounted := Lib.hid (show countedF k = true from decide_eq_true hm)
  have Hstamped := Lib.hid (show stampedF k = true from decide_eq_true (by omega))
  have hm1 : 1 ≤ k := by omega
  have hm6 : k ≤ 6 := by omega
  have hm5 : (k != 5) = true := by rw [bne_iff_ne]; omega
  clear hm
  go_enter Try.func70, Try.ntmps70
  go_wp2_with (first | (go_at_call 104; refine (keyed_any k).mono ?_; rintro e w1 ⟨rfl, rfl⟩; rw [Hkeyed.out]) | (go_at_call 105; refine (valued_any k).mono ?_; rintro e w1 ⟨rfl, rfl⟩; rw [Hvalued.out]) | (go_at_call 106; refine (stamped_any k).mono ?_; rintro e w1 ⟨rfl, rfl⟩; rw [Hstamped.out]) | (go_at_call 107; refine (counted_any k).mono ?_; rintro e w1 ⟨rfl, rfl⟩; rw [Hcounted.out]))
  all_goals go_ret
  all_goals (refine ⟨?_, (Below.refl _ _).alloc (Nat.le_refl _) _⟩)
  all_goals (first | (rw [En.chk_no (by rw [may_m HM.out]; rintro ⟨q0, q1, q2, q3, q4, q5, q6⟩; first | omega | cases q5)]; rfl) | (rw [En.chk_ok (by rw [may_m HM.out]; exact ⟨by omega, by omega, by omega, by omega, by omega, rfl, by omega⟩)]; rfl))
set_option maxRecDepth 100000 in
set_option maxHeartbeats 3200000 in
theorem rcheck_m_false_any {w : World} {A : Option Addr} {c : Nat} (k : Int) (hm : k = 3 ∨ k = 4 ∨ k = 6) (s : Int) (n : Int) (key : ByteArray) (v : List UInt8) (hks : key.size ≤ 140737488355328) (hvl : v.length ≤ 140737488355328) :
    Calls Try.prog 70 #[.agg (En.cells ⟨k, s, n, key, v, false⟩ A c)] w fun e w' => e = .returned (.int .i64 (En.chk ⟨k, s, n, key, v, false⟩)) ∧ Below w.heap.size w w' := by
  unfold En.cells
  simp only
  have HM := Lib.hid hm
  have Hkeyed := Lib.hid (show keyedF k = false from decide_eq_false (by omega))
  have Hvalued := Lib.hid (show valuedF k = false from decide_eq_false (by omega))
  have Hcounted := Lib.hid (show countedF k = true from decide_eq_true hm)
  have Hstamped := Lib.hid (show stampedF k = true from decide_eq_true (by omega))
  have hm1 : 1 ≤ k := by omega
  have hm6 : k ≤ 6 := by omega
  have hm5 : (k != 5) = true := by rw [bne_iff_ne]; omega
  clear hm
  go_enter Try.func70, Try.ntmps70
  go_wp2_with (first | (go_at_call 104; refine (keyed_any k).mono ?_; rintro e w1 ⟨rfl, rfl⟩; rw [Hkeyed.out]) | (go_at_call 105; refine (valued_any k).mono ?_; rintro e w1 ⟨rfl, rfl⟩; rw [Hvalued.out]) | (go_at_call 106; refine (stamped_any k).mono ?_; rintro e w1 ⟨rfl, rfl⟩; rw [Hstamped.out]) | (go_at_call 107; refine (counted_any k).mono ?_; rintro e w1 ⟨rfl, rfl⟩; rw [Hcounted.out]))
  all_goals go_ret
  all_goals (refine ⟨?_, (Below.refl _ _).alloc (Nat.le_refl _) _⟩)
  all_goals (first | (rw [En.chk_no (by rw [may_m HM.out]; rintro ⟨q0, q1, q2, q3, q4, q5, q6⟩; first | omega | cases q5)]; rfl) | (rw [En.chk_ok (by rw [may_m HM.out]; exact ⟨by omega, by omega, by omega, by omega, by omega, rfl, by omega⟩)]; rfl))
end Go.Proofs.Ytmnpchncmbnddaa
/- The reference's Check at some kinds, by contract (printed by a program of this claim's own). -/
namespace Go.Proofs.Ytmnpchncmbnddaa
open Go.RowKit
set_option maxRecDepth 100000 in
set_option maxHeartbeats 3200000 in
theorem rcheck_5_true_z {w : World} {A : Option Addr} {c : Nat} (s : Int) (key : ByteArray) (v : List UInt8) (hks : key.size ≤ 140737488355328) (hvl : v.length ≤ 140737488355328) :
    Calls Try.prog 70 #[.agg (En.cells ⟨5, s, 0, key, v, true⟩ A c)] w fun e w' => e = .returned (.int .i64 (En.chk ⟨5, s, 0, key, v, true⟩)) ∧ Below w.heap.size w w' := by
  unfold En.cells
  simp only
  go_enter Try.func70, Try.ntmps70
  go_wp2_with (first | (go_at_call 104; refine (keyed_any 5).mono ?_; rintro e w1 ⟨rfl, rfl⟩; rw [show keyedF 5 = true from rfl]) | (go_at_call 105; refine (valued_any 5).mono ?_; rintro e w1 ⟨rfl, rfl⟩; rw [show valuedF 5 = true from rfl]) | (go_at_call 106; refine (stamped_any 5).mono ?_; rintro e w1 ⟨rfl, rfl⟩; rw [show stampedF 5 = true from rfl]) | (go_at_call 107; refine (counted_any 5).mono ?_; rintro e w1 ⟨rfl, rfl⟩; rw [show countedF 5 = false from rfl]))
  all_goals go_ret
  all_goals (refine ⟨?_, (Below.refl _ _).alloc (Nat.le_refl _) _⟩)
  all_goals (first | (rw [En.chk_no (by rw [may_5]; rintro ⟨q0, q1, q2, q3, q4, q5, q6⟩; first | omega | (have q9 := q6 rfl; omega))]; rfl) | (rw [En.chk_ok (by rw [may_5]; exact ⟨by omega, by omega, by omega, by omega, rfl, by omega, fun hd => by first | omega | cases hd⟩)]; rfl))
set_option maxRecDepth 100000 in
set_option maxHeartbeats 3200000 in
theorem rcheck_5_true_nz {w : World} {A : Option Addr} {c : Nat} (s : Int) (n : Int) (key : ByteArray) (v : List UInt8) (hks : key.size ≤ 140737488355328) (hvl : v.length ≤ 140737488355328) (hn : ¬ n = 0) :
    Calls Try.prog 70 #[.agg (En.cells ⟨5, s, n, key, v, true⟩ A c)] w fun e w' => e = .returned (.int .i64 (En.chk ⟨5, s, n, key, v, true⟩)) ∧ Below w.heap.size w w' := by
  unfold En.cells
  simp only
  have hN0 : (n != 0) = true := by rw [bne_iff_ne]; exact hn
  go_enter Try.func70, Try.ntmps70
  go_wp2_with (first | (go_at_call 104; refine (keyed_any 5).mono ?_; rintro e w1 ⟨rfl, rfl⟩; rw [show keyedF 5 = true from rfl]) | (go_at_call 105; refine (valued_any 5).mono ?_; rintro e w1 ⟨rfl, rfl⟩; rw [show valuedF 5 = true from rfl]) | (go_at_call 106; refine (stamped_any 5).mono ?_; rintro e w1 ⟨rfl, rfl⟩; rw [show stampedF 5 = true from rfl]) | (go_at_call 107; refine (counted_any 5).mono ?_; rintro e w1 ⟨rfl, rfl⟩; rw [show countedF 5 = false from rfl]))
  all_goals go_ret
  all_goals (refine ⟨?_, (Below.refl _ _).alloc (Nat.le_refl _) _⟩)
  all_goals (first | (rw [En.chk_no (by rw [may_5]; rintro ⟨q0, q1, q2, q3, q4, q5, q6⟩; first | omega | (have q9 := q6 rfl; omega))]; rfl) | (rw [En.chk_ok (by rw [may_5]; exact ⟨by omega, by omega, by omega, by omega, rfl, by omega, fun hd => by first | omega | cases hd⟩)]; rfl))
set_option maxRecDepth 100000 in
set_option maxHeartbeats 3200000 in
theorem rcheck_5_false_z {w : World} {A : Option Addr} {c : Nat} (s : Int) (key : ByteArray) (v : List UInt8) (hks : key.size ≤ 140737488355328) (hvl : v.length ≤ 140737488355328) :
    Calls Try.prog 70 #[.agg (En.cells ⟨5, s, 0, key, v, false⟩ A c)] w fun e w' => e = .returned (.int .i64 (En.chk ⟨5, s, 0, key, v, false⟩)) ∧ Below w.heap.size w w' := by
  unfold En.cells
  simp only
  go_enter Try.func70, Try.ntmps70
  go_wp2_with (first | (go_at_call 104; refine (keyed_any 5).mono ?_; rintro e w1 ⟨rfl, rfl⟩; rw [show keyedF 5 = true from rfl]) | (go_at_call 105; refine (valued_any 5).mono ?_; rintro e w1 ⟨rfl, rfl⟩; rw [show valuedF 5 = true from rfl]) | (go_at_call 106; refine (stamped_any 5).mono ?_; rintro e w1 ⟨rfl, rfl⟩; rw [show stampedF 5 = true from rfl]) | (go_at_call 107; refine (counted_any 5).mono ?_; rintro e w1 ⟨rfl, rfl⟩; rw [show countedF 5 = false from rfl]))
  all_goals go_ret
  all_goals (refine ⟨?_, (Below.refl _ _).alloc (Nat.le_refl _) _⟩)
  all_goals (first | (rw [En.chk_no (by rw [may_5]; rintro ⟨q0, q1, q2, q3, q4, q5, q6⟩; first | omega | (have q9 := q6 rfl; omega))]; rfl) | (rw [En.chk_ok (by rw [may_5]; exact ⟨by omega, by omega, by omega, by omega, rfl, by omega, fun hd => by first | omega | cases hd⟩)]; rfl))
set_option maxRecDepth 100000 in
set_option maxHeartbeats 3200000 in
theorem rcheck_5_false_nz {w : World} {A : Option Addr} {c : Nat} (s : Int) (n : Int) (key : ByteArray) (v : List UInt8) (hks : key.size ≤ 140737488355328) (hvl : v.length ≤ 140737488355328) (hn : ¬ n = 0) :
    Calls Try.prog 70 #[.agg (En.cells ⟨5, s, n, key, v, false⟩ A c)] w fun e w' => e = .returned (.int .i64 (En.chk ⟨5, s, n, key, v, false⟩)) ∧ Below w.heap.size w w' := by
  unfold En.cells
  simp only
  have hN0 : (n != 0) = true := by rw [bne_iff_ne]; exact hn
  go_enter Try.func70, Try.ntmps70
  go_wp2_with (first | (go_at_call 104; refine (keyed_any 5).mono ?_; rintro e w1 ⟨rfl, rfl⟩; rw [show keyedF 5 = true from rfl]) | (go_at_call 105; refine (valued_any 5).mono ?_; rintro e w1 ⟨rfl, rfl⟩; rw [show valuedF 5 = true from rfl]) | (go_at_call 106; refine (stamped_any 5).mono ?_; rintro e w1 ⟨rfl, rfl⟩; rw [show stampedF 5 = true from rfl]) | (go_at_call 107; refine (counted_any 5).mono ?_; rintro e w1 ⟨rfl, rfl⟩; rw [show countedF 5 = false from rfl]))
  all_goals go_ret
  all_goals (refine ⟨?_, (Below.refl _ _).alloc (Nat.le_refl _) _⟩)
  all_goals (first | (rw [En.chk_no (by rw [may_5]; rintro ⟨q0, q1, q2, q3, q4, q5, q6⟩; first | omega | (have q9 := q6 rfl; omega))]; rfl) | (rw [En.chk_ok (by rw [may_5]; exact ⟨by omega, by omega, by omega, by omega, rfl, by omega, fun hd => by first | omega | cases hd⟩)]; rfl))
end Go.Proofs.Ytmnpchncmbnddaa
/- The reference's Check, by contract. -/
namespace Go.Proofs.Ytmnpchncmbnddaa
open Go.RowKit
theorem rcheck_x {w : World} {A : Option Addr} {c : Nat} (k s n : Int) (key : ByteArray) (v : List UInt8) (d : Bool) (hk : ¬ (1 ≤ k ∧ k ≤ 6)) :
    Calls Try.prog 70 #[.agg (En.cells ⟨k, s, n, key, v, d⟩ A c)] w fun e w' => e = .returned (.int .i64 (En.chk ⟨k, s, n, key, v, d⟩)) ∧ Below w.heap.size w w' := by
  have HE := Lib.hid (En.chk_no (may_x (s := s) (n := n) (key := key) (v := v) (d := d) hk))
  unfold En.cells
  simp only
  by_cases h1 : k < 1
  · clear hk
    go_enter Try.func70, Try.ntmps70
    go_wp2
    all_goals go_ret
    all_goals exact ⟨by rw [HE.out]; rfl, (Below.refl _ _).alloc (Nat.le_refl _) _⟩
  · have h6 : 6 < k := by omega
    clear hk
    go_enter Try.func70, Try.ntmps70
    go_wp2
    all_goals go_ret
    all_goals exact ⟨by rw [HE.out]; rfl, (Below.refl _ _).alloc (Nat.le_refl _) _⟩
theorem rcheck_any {w : World} {A : Option Addr} {c : Nat} (x : En) (hks : x.key.size ≤ 140737488355328) (hvl : x.value.length ≤ 140737488355328) :
    Calls Try.prog 70 #[.agg (x.cells A c)] w fun e w' => e = .returned (.int .i64 x.chk) ∧ Below w.heap.size w w' := by
  obtain ⟨k, s, n, key, v, d⟩ := x
  by_cases h1 : k = 1
  · subst h1
    cases d
    · by_cases hn : n = 0
      · subst hn; exact rcheck_1_false_z s key v hks hvl
      · exact rcheck_1_false_nz s n key v hks hvl hn
    · exact rcheck_1_true_any s n key v hks hvl
  by_cases h2 : k = 2
  · subst h2
    cases d
    · by_cases hn : n = 0
      · subst hn; exact rcheck_2_false_z s key v hks hvl
      · exact rcheck_2_false_nz s n key v hks hvl hn
    · exact rcheck_2_true_any s n key v hks hvl
  by_cases h5 : k = 5
  · subst h5
    cases d
    · by_cases hn : n = 0
      · subst hn; exact rcheck_5_false_z s key v hks hvl
      · exact rcheck_5_false_nz s n key v hks hvl hn
    · by_cases hn : n = 0
      · subst hn; exact rcheck_5_true_z s key v hks hvl
      · exact rcheck_5_true_nz s n key v hks hvl hn
  by_cases hm : k = 3 ∨ k = 4 ∨ k = 6
  · cases d
    · exact rcheck_m_false_any k hm s n key v hks hvl
    · exact rcheck_m_true_any k hm s n key v hks hvl
  · exact rcheck_x k s n key v d (by omega)
end Go.Proofs.Ytmnpchncmbnddaa
/- Decode of the reference, by contract (printed by a program of this claim's own). -/
namespace Go.Proofs.Ytmnpchncmbnddaa
open Go.RowKit

/-- The answer and the entry in memory while bytes are read. -/
structure RSt (w0 w : World) (R E : Nat) (cs : Array Value) : Prop where
  bel : Below w0.heap.size w0 w
  res : Blk w R 26 #[.int .i64 0, .int .i64 0, .int .i64 0, .string ⟨#[]⟩, .slice none 0 0, .bool false]
  ent : Blk w E 26 cs
  o1 : w0.heap.size ≤ R
  o2 : R < E
section
variable {w0 w w' : World} {R E : Nat} {cs : Array Value}
theorem RSt.set (h : RSt w0 w R E cs) (i : Nat) (u : Value) : RSt w0 (w.setCell ⟨E, i, none⟩ u) R E (cs.setIfInBounds i u) :=
  ⟨h.bel.setCell (by show w0.heap.size ≤ E; have := h.o1; have := h.o2; omega) _, h.res.far (p := ⟨E, i, none⟩) (by have := h.o2; show ¬ R = E; omega) _, h.ent.set_ i u, h.o1, h.o2⟩
theorem RSt.go (h : RSt w0 w R E cs) (hb : Below w.heap.size w w') : RSt w0 w' R E cs :=
  ⟨h.bel.trans (hb.mono h.bel.size), h.res.below' hb, h.ent.below' hb, h.o1, h.o2⟩
end
end Go.Proofs.Ytmnpchncmbnddaa
/- Same, SameVersion, clone: by contract (printed by a program of this claim's own). -/
namespace Go.Proofs.Ytmnpchncmbnddaa
open Go.RowKit

/-- The call answers true and leaves what was there. -/
def True_ (w : World) (e : Ending) (w' : World) : Prop := e = .returned (.bool true) ∧ Below w.heap.size w w'
set_option maxRecDepth 100000 in
set_option maxHeartbeats 1000000 in
theorem sameVersion_any {w : World} {A A' : Option Addr} {c c' : Nat} (x : Vn) (h1 : BReads w w.heap.size A x.value) (h2 : BReads w w.heap.size A' x.value) :
    Calls Try.prog 35 #[.agg (x.cells A c), .agg (x.cells A' c')] w (True_ w) := by
  obtain ⟨key, s, p, d⟩ := x
  unfold Vn.cells
  simp only at h1 h2 ⊢
  have B0 := Lib.hid (((Below.refl w.heap.size w).alloc (Nat.le_refl _) (.cells #[.string key, .int .i64 s, .slice A p.length c, .bool d] 88)).alloc (by simp) (.cells #[.string key, .int .i64 s, .slice A' p.length c', .bool d] 88))
  have k1 := conv_text (h1.below B0.out) c
  have k2 := conv_text (h2.below B0.out) c'
  obtain ⟨t, ht⟩ : ∃ t : ByteArray, t = ⟨p.toArray⟩ := ⟨_, rfl⟩
  obtain ⟨m, hm⟩ : ∃ m, m = p.length := ⟨_, rfl⟩
  rw [← ht, ← hm] at k1 k2
  rw [← hm] at B0
  rw [← hm]
  clear ht hm h1 h2
  go_enter Try.func35, Try.ntmps35
  go_wp2
  go_ret
  exact ⟨rfl, B0.out⟩
end Go.Proofs.Ytmnpchncmbnddaa
/- Decode of package entry, by contract (printed by a program of this claim's own). -/
namespace Go.Proofs.Ytmnpchncmbnddaa
open Go.RowKit

/-- The reader and the two entries in memory while bytes are read. -/
structure DSt (w0 w : World) (R g E : Nat) (r : Rd) (cs : Array Value) : Prop where
  bel : Below w0.heap.size w0 w
  res : Blk w R 26 #[.int .i64 0, .int .i64 0, .int .i64 0, .string ⟨#[]⟩, .slice none 0 0, .bool false]
  ent : Blk w E 26 cs
  rd : RdIs w g r
  o1 : w0.heap.size ≤ R
  o2 : R < g
  o3 : g < E
section
variable {w0 w w' : World} {R g E : Nat} {r r' : Rd} {cs : Array Value}
theorem DSt.read (h : DSt w0 w R g E r cs) (hr : RdIs w' g r') (hk : Keeps (fun k => k = g) w w') : DSt w0 w' R g E r' cs :=
  ⟨h.bel.trans (hk.below h.bel.size (fun i hi => by have := h.o1; have := h.o2; omega)), h.res.keeps hk (by have := h.o2; omega), h.ent.keeps hk (by have := h.o3; omega), hr, h.o1, h.o2, h.o3⟩
theorem DSt.set (h : DSt w0 w R g E r cs) (i : Nat) (u : Value) : DSt w0 (w.setCell ⟨E, i, none⟩ u) R g E r (cs.setIfInBounds i u) :=
  ⟨h.bel.setCell (by show w0.heap.size ≤ E; have := h.o1; have := h.o2; have := h.o3; omega) _, h.res.far (p := ⟨E, i, none⟩) (by have := h.o2; have := h.o3; show ¬ R = E; omega) _, h.ent.set_ i u,
    h.rd.keeps ((Keeps.refl (fun k => k = E) w).setCell (p := ⟨E, i, none⟩) (.inl rfl) u) (fun j hj => by have := h.o3; omega), h.o1, h.o2, h.o3⟩
theorem DSt.go (h : DSt w0 w R g E r cs) (hb : Below w.heap.size w w') : DSt w0 w' R g E r cs :=
  ⟨h.bel.trans (hb.mono h.bel.size), h.res.below' hb, h.ent.below' hb, h.rd.below hb, h.o1, h.o2, h.o3⟩
end
end Go.Proofs.Ytmnpchncmbnddaa
/- awake: some calls whose answers the document fixes. -/
namespace Go.Proofs.Ytmnpchncmbnddaa
open Go.RowKit

end Go.Proofs.Ytmnpchncmbnddaa
/- EntryReads: the walk. -/
namespace Go.Proofs.Ytmnpchncmbnddaa
open Go.RowKit

def En.zero : En := ⟨0, 0, 0, ⟨#[]⟩, [], false⟩
end Go.Proofs.Ytmnpchncmbnddaa
/- Logs, by contract: Entries. -/
namespace Go.Proofs.Ytmnpchncmbnddaa
open Go.RowKit
attribute [local go_sem] Oper.semAt_some

end Go.Proofs.Ytmnpchncmbnddaa
/- The law's fit and Alike, by contract. -/
namespace Go.Proofs.Ytmnpchncmbnddaa
open Go.RowKit

theorem Try.info26 : (Try.prog.info? 26).map (fun i => (i.zero, i.size, i.bytes)) = some (some (.agg #[.int .i64 0, .int .i64 0, .int .i64 0, .string ⟨#[]⟩, .slice none 0 0, .bool false]), 6, 72) := by kernel_rfl
end Go.Proofs.Ytmnpchncmbnddaa
/- slices.Equal of ints, by its contract. -/
namespace Go.Proofs.Ytmnpchncmbnddaa
open Go.RowKit

/-- Ints as cells. -/
def ivs (l : List Int) : List Value := l.map fun b => Value.int .i64 b
theorem ivs_get (l : List Int) (k : Nat) : (ivs l)[k]? = (l[k]?).map fun b => Value.int .i64 b := by simp [ivs]
/-- The slice at A reads as the ints l, in blocks below B. -/
def IReads (w : World) (B : Nat) (A : Option Addr) (l : List Int) : Prop := Reads w B 1 A l.length (ivs l)
theorem IReads.at_ {w : World} {B : Nat} {A : Option Addr} {l : List Int} (h : IReads w B A l) {k : Nat} (hk : k < l.length) :
    ∃ b off, A = some ⟨b, off, none⟩ ∧ b < B ∧ w.cell? ⟨b, off + k, none⟩ = some (.int .i64 l[k]) := by
  obtain ⟨b, off, e, hb, hc⟩ := h.2 (by omega)
  exact ⟨b, off, e, hb, hc k _ (by rw [ivs_get, List.getElem?_eq_getElem hk]; rfl)⟩
end Go.Proofs.Ytmnpchncmbnddaa
/- What a log tells of its own frames, and of bytes behind them: the plain law. -/
namespace Go.Proofs.Ytmnpchncmbnddaa
open Go.RowKit

end Go.Proofs.Ytmnpchncmbnddaa
